/-
  WalPlays: the document's disk: Sync, Read, Remove, Rename (printed by wip/gen/rd7.py). WalPlays: the document's disk: Crash (printed by wip/gen/rd8.py). WalPlays: the document's disk: List.
-/
import Derived.Test.YtdngjkjoahgelaaGreatDoorQdA
namespace Go.Proofs.YtdngjkjoahgelaaGreatDoor
set_option linter.all false
set_option maxRecDepth 100000
set_option maxHeartbeats 2000000
open Go.RowKit
/-- 'Rename' as the document has it. -/
def renameQ (D : Fls) (n m : Bt) : Int × Fls := match getF n D with
  | none => (5, D)
  | some f => if okName m = false then (2, D) else (0, putF ⟨m, f.bytes, f.synced⟩ (delF n D))
theorem renameQ_eq (D : Fls) {n m : Bt} (h : n ≠ m) : renameQ D n m = renameD D n m := by
  unfold renameQ renameD
  cases getF n D with
  | none => rfl
  | some f => simp only [if_neg h]
theorem ofV_some {s : Bt} {D : Fls} {x : Fl} (hg : getF s D = some x) : ofV (some x) = .tuple #[.agg #[.string (bA s), .string (bA x.bytes), .int .i64 (x.synced : Int)], .bool true] := by rw [ofV, getF_name hg]
section
variable {B w w' : World} {L : List HP} {room : Int} {D : Fls} {v : Value}
/-- 'Sync'. -/
theorem pqSync (s : Bt) (hq : qR w v D) (hsr : SrtBy Fl.name D) (hl : D.length ≤ 1000000) :
    Calls Tryz.prog 62 #[qval room v, .string (bA s)] w fun y w' => ∃ v', y = .returned (.tuple #[qval room v', .int .i64 (syncD D s).1]) ∧ qOut w w' v v' (syncD D s) := by
  obtain ⟨a, c, rfl⟩ := hq.len
  obtain ⟨bx, hbx⟩ : ∃ bx, w.heap.size = bx := ⟨_, rfl⟩
  have h1 := (Sat.start w).alloc' (.cells #[.int .i64 room, .slice a D.length c] 54) (n := bx) hbx.symm
  have Hq := Lib.hid hq
  have Hl := Lib.hid hl
  have Hs := Lib.hid hsr
  have hO := fun (w3 : World) (hb : Below w.heap.size w w3) => pqOf (room := room) (w := w3) s (Hq.out.up hb) Hl.out
  simp only [ofQ_eq Hs.out] at hO
  clear hq hl hsr
  have h2 := h1.alloc' (.cells #[.int .i64 0, .slice none 0 0] 54) (n := bx + 1) (by simp [hbx])
  cases hg : getF s D with
  | none =>
    have Ha := Lib.hid (show syncD D s = (5, D) by simp [syncD, hg])
    simp only [hg, ofV] at hO
    clear hg
    go_enter Tryz.func62, Tryz.ntmps62
    go_wp2_with (first
      | (go_at_call 81; refine (hO _ h2.below).mono ?_; rintro y w4 ⟨rfl, hb4⟩; have h4 := h2.of_below hb4; have x0 := h4.swap.pt_cell 0; have x1 := h4.swap.pt_cell 1; have b4 := h4.swap.pt_lt; have y0 := h4.pt_cell 0; have y1 := h4.pt_cell 1; have z0 := h4.pt_free 0; have z1 := h4.pt_free 1; have b5 := h4.pt_lt; have h5 := h4.alloc' (.cells #[.string ⟨#[]⟩, .string ⟨#[]⟩, .int .i64 0] 117) (n := w4.heap.size) rfl; simp only [List.getElem?_toArray, List.getElem?_cons_zero, List.getElem?_cons_succ] at x0 x1 y0 y1))
    have h6 := (((h4.set (j := 0) (.int .i64 room)).set (j := 1) (.slice a D.length c)).alloc (.cells #[.string ⟨#[]⟩, .string ⟨#[]⟩, .int .i64 0] 117)).swap
    generalize World.alloc _ _ = wz at h6 ⊢
    have k0 := h6.pt_cell 0
    have k1 := h6.pt_cell 1
    simp only [List.setIfInBounds_toArray, List.set_cons_zero, List.set_cons_succ, List.getElem?_toArray, List.getElem?_cons_zero, List.getElem?_cons_succ] at k0 k1
    refine bodyPost_ret (v := .tuple #[qval room (.slice a D.length c), .int .i64 5]) (by simp [results, Tryz.results62, go_sem, k0, k1]) rfl ?_
    rw [Ha.out]
    exact ⟨_, rfl, .inr ⟨by simp, rfl, h6.below⟩⟩
  | some x =>
    have Ha := Lib.hid (show syncD D s = (0, putF ⟨s, x.bytes, x.bytes.length⟩ D) by simp [syncD, hg])
    have hW := fun (w3 : World) (hb : Below w.heap.size w w3) => pqwith (room := room) (w := w3) ⟨s, x.bytes, x.bytes.length⟩ (Hq.out.up hb) Hl.out
    have hz : (bA x.bytes).size = x.bytes.length := bA_size _
    simp only [withQ_eq] at hW
    simp only [hg, ofV_some hg] at hO
    clear hg
    go_enter Tryz.func62, Tryz.ntmps62
    go_wp2_with (first
      | (go_at_call 81; refine (hO _ h2.below).mono ?_; rintro y w4 ⟨rfl, hb4⟩; have h4 := h2.of_below hb4; have x0 := h4.swap.pt_cell 0; have x1 := h4.swap.pt_cell 1; have b4 := h4.swap.pt_lt; have y0 := h4.pt_cell 0; have y1 := h4.pt_cell 1; have z0 := h4.pt_free 0; have z1 := h4.pt_free 1; have b5 := h4.pt_lt; have h5 := h4.alloc' (.cells #[.string (bA s), .string (bA x.bytes), .int .i64 (x.synced : Int)] 117) (n := w4.heap.size) rfl; simp only [List.getElem?_toArray, List.getElem?_cons_zero, List.getElem?_cons_succ] at x0 x1 y0 y1)
      | (go_at_call 82; refine (hW _ h5.below).mono ?_; rintro y w6 ⟨v6, rfl, hs6⟩; obtain ⟨a6, c6, rfl⟩ := hs6.q_row.len; have h6 := h5.over hs6; clear y0 y1 z0 z1; have y0 := h6.p2.pt_cell 0; have y1 := h6.p2.pt_cell 1; have z0 := h6.p2.pt_free 0; have z1 := h6.p2.pt_free 1; simp only [List.getElem?_toArray, List.getElem?_cons_zero, List.getElem?_cons_succ] at y0 y1))
    have h7 := (h6.p2.set (j := 0) (.int .i64 room)).set (j := 1) (.slice a6 (putF ⟨s, x.bytes, x.bytes.length⟩ D).length c6)
    generalize (World.setCell _ _ _).setCell _ _ = wz at h7 ⊢
    have k0 := h7.pt_cell 0
    have k1 := h7.pt_cell 1
    simp only [List.setIfInBounds_toArray, List.set_cons_zero, List.set_cons_succ, List.getElem?_toArray, List.getElem?_cons_zero, List.getElem?_cons_succ] at k0 k1
    refine bodyPost_ret (v := .tuple #[qval room (.slice a6 (putF ⟨s, x.bytes, x.bytes.length⟩ D).length c6), .int .i64 0]) (by simp [results, Tryz.results62, go_sem, k0, k1]) rfl ?_
    rw [Ha.out]
    exact ⟨_, rfl, .inl ⟨rfl, h7.drop.swap.drop.swap.drop⟩⟩
/-- 'Read'. -/
theorem pqRead (s : Bt) (hq : qR w v D) (hsr : SrtBy Fl.name D) (hl : D.length ≤ 1000000) :
    Calls Tryz.prog 55 #[qval room v, .string (bA s)] w fun y w' => y = .returned (.tuple #[.string (bA (readD D s).1), .int .i64 (readD D s).2]) ∧ Below w.heap.size w w' := by
  obtain ⟨a, c, rfl⟩ := hq.len
  obtain ⟨bx, hbx⟩ : ∃ bx, w.heap.size = bx := ⟨_, rfl⟩
  have h1 := (Sat.start w).alloc' (.cells #[.int .i64 room, .slice a D.length c] 54) (n := bx) hbx.symm
  have Hq := Lib.hid hq
  have Hl := Lib.hid hl
  have Hs := Lib.hid hsr
  have hO := fun (w3 : World) (hb : Below w.heap.size w w3) => pqOf (room := room) (w := w3) s (Hq.out.up hb) Hl.out
  simp only [ofQ_eq Hs.out] at hO
  clear hq hl hsr
  have h2 := h1
  cases hg : getF s D with
  | none =>
    have Ha := Lib.hid (show readD D s = ([], 5) by simp [readD, hg])
    simp only [hg, ofV] at hO
    clear hg
    go_enter Tryz.func55, Tryz.ntmps55
    go_wp2_with (first
      | (go_at_call 81; refine (hO _ h2.below).mono ?_; rintro y w4 ⟨rfl, hb4⟩; have h4 := h2.of_below hb4; have x0 := h4.pt_cell 0; have x1 := h4.pt_cell 1; have b4 := h4.pt_lt; have h5 := h4.alloc' (.cells #[.string ⟨#[]⟩, .string ⟨#[]⟩, .int .i64 0] 117) (n := w4.heap.size) rfl; simp only [List.getElem?_toArray, List.getElem?_cons_zero, List.getElem?_cons_succ] at x0 x1))
    go_ret2
    rw [Ha.out]
    exact ⟨rfl, h5.below⟩
  | some x =>
    have Ha := Lib.hid (show readD D s = (x.bytes, 0) by simp [readD, hg])
    simp only [hg, ofV_some hg] at hO
    clear hg
    go_enter Tryz.func55, Tryz.ntmps55
    go_wp2_with (first
      | (go_at_call 81; refine (hO _ h2.below).mono ?_; rintro y w4 ⟨rfl, hb4⟩; have h4 := h2.of_below hb4; have x0 := h4.pt_cell 0; have x1 := h4.pt_cell 1; have b4 := h4.pt_lt; have h5 := h4.alloc' (.cells #[.string (bA s), .string (bA x.bytes), .int .i64 (x.synced : Int)] 117) (n := w4.heap.size) rfl; simp only [List.getElem?_toArray, List.getElem?_cons_zero, List.getElem?_cons_succ] at x0 x1))
    go_ret2
    rw [Ha.out]
    exact ⟨rfl, h5.below⟩
/-- 'Remove'. -/
theorem pqRemove (s : Bt) (hq : qR w v D) (hsr : SrtBy Fl.name D) (hl : D.length ≤ 1000000) :
    Calls Tryz.prog 52 #[qval room v, .string (bA s)] w fun y w' => ∃ v', y = .returned (.tuple #[qval room v', .int .i64 (removeD D s).1]) ∧ qOut w w' v v' (removeD D s) := by
  obtain ⟨a, c, rfl⟩ := hq.len
  obtain ⟨bx, hbx⟩ : ∃ bx, w.heap.size = bx := ⟨_, rfl⟩
  have h1 := (Sat.start w).alloc' (.cells #[.int .i64 room, .slice a D.length c] 54) (n := bx) hbx.symm
  have Hq := Lib.hid hq
  have Hl := Lib.hid hl
  have Hs := Lib.hid hsr
  have hO := fun (w3 : World) (hb : Below w.heap.size w w3) => pqOf (room := room) (w := w3) s (Hq.out.up hb) Hl.out
  simp only [ofQ_eq Hs.out] at hO
  clear hq hl hsr
  have h2 := h1.alloc' (.cells #[.int .i64 0, .slice none 0 0] 54) (n := bx + 1) (by simp [hbx])
  cases hg : getF s D with
  | none =>
    have Ha := Lib.hid (show removeD D s = (5, D) by simp [removeD, hg])
    simp only [hg, ofV] at hO
    clear hg
    go_enter Tryz.func52, Tryz.ntmps52
    go_wp2_with (first
      | (go_at_call 81; refine (hO _ h2.below).mono ?_; rintro y w4 ⟨rfl, hb4⟩; have h4 := h2.of_below hb4; have x0 := h4.swap.pt_cell 0; have x1 := h4.swap.pt_cell 1; have b4 := h4.swap.pt_lt; have y0 := h4.pt_cell 0; have y1 := h4.pt_cell 1; have z0 := h4.pt_free 0; have z1 := h4.pt_free 1; have b5 := h4.pt_lt; have h5 := h4.alloc' (.cells #[.string ⟨#[]⟩, .string ⟨#[]⟩, .int .i64 0] 117) (n := w4.heap.size) rfl; simp only [List.getElem?_toArray, List.getElem?_cons_zero, List.getElem?_cons_succ] at x0 x1 y0 y1))
    have h6 := (((h4.set (j := 0) (.int .i64 room)).set (j := 1) (.slice a D.length c)).alloc (.cells #[.string ⟨#[]⟩, .string ⟨#[]⟩, .int .i64 0] 117)).swap
    generalize World.alloc _ _ = wz at h6 ⊢
    have k0 := h6.pt_cell 0
    have k1 := h6.pt_cell 1
    simp only [List.setIfInBounds_toArray, List.set_cons_zero, List.set_cons_succ, List.getElem?_toArray, List.getElem?_cons_zero, List.getElem?_cons_succ] at k0 k1
    refine bodyPost_ret (v := .tuple #[qval room (.slice a D.length c), .int .i64 5]) (by simp [results, Tryz.results52, go_sem, k0, k1]) rfl ?_
    rw [Ha.out]
    exact ⟨_, rfl, .inr ⟨by simp, rfl, h6.below⟩⟩
  | some x =>
    have Ha := Lib.hid (show removeD D s = (0, delF s D) by simp [removeD, hg])
    have hW := fun (w3 : World) (hb : Below w.heap.size w w3) => pqwithout (room := room) (w := w3) s (Hq.out.up hb) Hl.out
    simp only [hg, ofV_some hg] at hO
    clear hg
    go_enter Tryz.func52, Tryz.ntmps52
    go_wp2_with (first
      | (go_at_call 81; refine (hO _ h2.below).mono ?_; rintro y w4 ⟨rfl, hb4⟩; have h4 := h2.of_below hb4; have x0 := h4.swap.pt_cell 0; have x1 := h4.swap.pt_cell 1; have b4 := h4.swap.pt_lt; have y0 := h4.pt_cell 0; have y1 := h4.pt_cell 1; have z0 := h4.pt_free 0; have z1 := h4.pt_free 1; have b5 := h4.pt_lt; have h5 := h4.alloc' (.cells #[.string (bA s), .string (bA x.bytes), .int .i64 (x.synced : Int)] 117) (n := w4.heap.size) rfl; simp only [List.getElem?_toArray, List.getElem?_cons_zero, List.getElem?_cons_succ] at x0 x1 y0 y1)
      | (go_at_call 83; refine (hW _ h5.below).mono ?_; rintro y w6 ⟨v6, rfl, hs6⟩; obtain ⟨a6, c6, rfl⟩ := hs6.q_row.len; have h6 := h5.over hs6; clear y0 y1 z0 z1; have y0 := h6.p2.pt_cell 0; have y1 := h6.p2.pt_cell 1; have z0 := h6.p2.pt_free 0; have z1 := h6.p2.pt_free 1; simp only [List.getElem?_toArray, List.getElem?_cons_zero, List.getElem?_cons_succ] at y0 y1))
    have h7 := (h6.p2.set (j := 0) (.int .i64 room)).set (j := 1) (.slice a6 (delF s D).length c6)
    generalize (World.setCell _ _ _).setCell _ _ = wz at h7 ⊢
    have k0 := h7.pt_cell 0
    have k1 := h7.pt_cell 1
    simp only [List.setIfInBounds_toArray, List.set_cons_zero, List.set_cons_succ, List.getElem?_toArray, List.getElem?_cons_zero, List.getElem?_cons_succ] at k0 k1
    refine bodyPost_ret (v := .tuple #[qval room (.slice a6 (delF s D).length c6), .int .i64 0]) (by simp [results, Tryz.results52, go_sem, k0, k1]) rfl ?_
    rw [Ha.out]
    exact ⟨_, rfl, .inl ⟨rfl, h7.drop.swap.drop.swap.drop⟩⟩
/-- 'Rename'. -/
theorem pqRename (s t : Bt) (hq : qR w v D) (hsr : SrtBy Fl.name D) (hl : D.length ≤ 1000000) (ht : t.length ≤ 1000000) :
    Calls Tryz.prog 87 #[qval room v, .string (bA s), .string (bA t)] w fun y w' => ∃ v', y = .returned (.tuple #[qval room v', .int .i64 (renameQ D s t).1]) ∧ qOut w w' v v' (renameQ D s t) := by
  obtain ⟨a, c, rfl⟩ := hq.len
  obtain ⟨bx, hbx⟩ : ∃ bx, w.heap.size = bx := ⟨_, rfl⟩
  have h1 := (Sat.start w).alloc' (.cells #[.int .i64 room, .slice a D.length c] 54) (n := bx) hbx.symm
  have Hq := Lib.hid hq
  have Hl := Lib.hid hl
  have Hs := Lib.hid hsr
  have hO := fun (w3 : World) (hb : Below w.heap.size w w3) => pqOf (room := room) (w := w3) s (Hq.out.up hb) Hl.out
  simp only [ofQ_eq Hs.out] at hO
  clear hq hl hsr
  have h2 := h1.alloc' (.cells #[.int .i64 0, .slice none 0 0] 54) (n := bx + 1) (by simp [hbx])
  have hname := fun (w' : World) => pqname (w := w') t (by omega)
  cases hg : getF s D with
  | none =>
    have Ha := Lib.hid (show renameQ D s t = (5, D) by simp [renameQ, hg])
    simp only [hg, ofV] at hO
    clear hg
    go_enter Tryz.func87, Tryz.ntmps87
    go_wp2_with (first
      | (go_at_call 81; refine (hO _ h2.below).mono ?_; rintro y w4 ⟨rfl, hb4⟩; have h4 := h2.of_below hb4; have x0 := h4.swap.pt_cell 0; have x1 := h4.swap.pt_cell 1; have b4 := h4.swap.pt_lt; have y0 := h4.pt_cell 0; have y1 := h4.pt_cell 1; have z0 := h4.pt_free 0; have z1 := h4.pt_free 1; have b5 := h4.pt_lt; have h5 := h4.alloc' (.cells #[.string ⟨#[]⟩, .string ⟨#[]⟩, .int .i64 0] 117) (n := w4.heap.size) rfl; simp only [List.getElem?_toArray, List.getElem?_cons_zero, List.getElem?_cons_succ] at x0 x1 y0 y1))
    have h6 := (((h4.set (j := 0) (.int .i64 room)).set (j := 1) (.slice a D.length c)).alloc (.cells #[.string ⟨#[]⟩, .string ⟨#[]⟩, .int .i64 0] 117)).swap
    generalize World.alloc _ _ = wz at h6 ⊢
    have k0 := h6.pt_cell 0
    have k1 := h6.pt_cell 1
    simp only [List.setIfInBounds_toArray, List.set_cons_zero, List.set_cons_succ, List.getElem?_toArray, List.getElem?_cons_zero, List.getElem?_cons_succ] at k0 k1
    refine bodyPost_ret (v := .tuple #[qval room (.slice a D.length c), .int .i64 5]) (by simp [results, Tryz.results87, go_sem, k0, k1]) rfl ?_
    rw [Ha.out]
    exact ⟨_, rfl, .inr ⟨by simp, rfl, h6.below⟩⟩
  | some x =>
    simp only [hg, ofV_some hg] at hO
    by_cases hok : okName t = false
    · have Ha := Lib.hid (show renameQ D s t = (2, D) by simp [renameQ, hg, hok])
      rw [hok] at hname
      clear hok hg
      go_enter Tryz.func87, Tryz.ntmps87
      go_wp2_with (first
        | (go_at_call 81; refine (hO _ h2.below).mono ?_; rintro y w4 ⟨rfl, hb4⟩; have h4 := h2.of_below hb4; have x0 := h4.swap.pt_cell 0; have x1 := h4.swap.pt_cell 1; have b4 := h4.swap.pt_lt; have y0 := h4.pt_cell 0; have y1 := h4.pt_cell 1; have z0 := h4.pt_free 0; have z1 := h4.pt_free 1; have b5 := h4.pt_lt; have h5 := h4.alloc' (.cells #[.string (bA s), .string (bA x.bytes), .int .i64 (x.synced : Int)] 117) (n := w4.heap.size) rfl; simp only [List.getElem?_toArray, List.getElem?_cons_zero, List.getElem?_cons_succ] at x0 x1 y0 y1)
        | (go_at_call 80; refine (hname _).mono ?_; rintro y w6 ⟨rfl, rfl⟩))
      have h6 := (((h4.set (j := 0) (.int .i64 room)).set (j := 1) (.slice a D.length c)).alloc (.cells #[.string (bA s), .string (bA x.bytes), .int .i64 (x.synced : Int)] 117)).swap
      generalize World.alloc _ _ = wz at h6 ⊢
      have k0 := h6.pt_cell 0
      have k1 := h6.pt_cell 1
      simp only [List.setIfInBounds_toArray, List.set_cons_zero, List.set_cons_succ, List.getElem?_toArray, List.getElem?_cons_zero, List.getElem?_cons_succ] at k0 k1
      refine bodyPost_ret (v := .tuple #[qval room (.slice a D.length c), .int .i64 2]) (by simp [results, Tryz.results87, go_sem, k0, k1]) rfl ?_
      rw [Ha.out]
      exact ⟨_, rfl, .inr ⟨by simp, rfl, h6.below⟩⟩
    · have hok' : okName t = true := by simpa using hok
      have Ha := Lib.hid (show renameQ D s t = (0, putF ⟨t, x.bytes, x.synced⟩ (delF s D)) by simp [renameQ, hg, hok'])
      rw [hok'] at hname
      have hdl : (delF s D).length ≤ 1000000 := Nat.le_trans (List.length_filter_le _ _) Hl.out
      have hV := fun (w3 : World) (hb : Below w.heap.size w w3) => pqwithout (room := room) (w := w3) s (Hq.out.up hb) Hl.out
      have hW := fun (w3 : World) (v3 : Value) (hq3 : qR w3 v3 (delF s D)) => pqwith (room := room) (w := w3) ⟨t, x.bytes, x.synced⟩ hq3 hdl
      simp only [withQ_eq] at hW
      clear hok hok' hg hdl
      go_enter Tryz.func87, Tryz.ntmps87
      go_wp2_with (first
        | (go_at_call 81; refine (hO _ h2.below).mono ?_; rintro y w4 ⟨rfl, hb4⟩; have h4 := h2.of_below hb4; have x0 := h4.swap.pt_cell 0; have x1 := h4.swap.pt_cell 1; have b4 := h4.swap.pt_lt; have y0 := h4.pt_cell 0; have y1 := h4.pt_cell 1; have z0 := h4.pt_free 0; have z1 := h4.pt_free 1; have b5 := h4.pt_lt; have h5 := h4.alloc' (.cells #[.string (bA s), .string (bA x.bytes), .int .i64 (x.synced : Int)] 117) (n := w4.heap.size) rfl; simp only [List.getElem?_toArray, List.getElem?_cons_zero, List.getElem?_cons_succ] at x0 x1 y0 y1)
        | (go_at_call 80; refine (hname _).mono ?_; rintro y w6 ⟨rfl, rfl⟩))
      have h5d := h5.drew
      have hS : ∀ w', Sat w (pt w4.heap.size (.cells #[.string (bA s), .string (bA x.bytes), .int .i64 (x.synced : Int)] 117) :: pt bx (.cells #[.int .i64 room, .slice a D.length c] 54) :: []) w' → w'.cell? ⟨w4.heap.size, 1, none⟩ = some (.string (bA x.bytes)) ∧ w'.cell? ⟨w4.heap.size, 2, none⟩ = some (.int .i64 (x.synced : Int)) ∧ w'.cell? ⟨bx, 0, none⟩ = some (.int .i64 room) ∧ w'.cell? ⟨bx, 1, none⟩ = some (.slice a D.length c) := fun w' h => ⟨h.pt_cell 1, h.pt_cell 2, h.swap.pt_cell 0, h.swap.pt_cell 1⟩
      have h0 := hS _ h5d.swap.drop
      clear x0 x1 y0 y1 z0 z1
      go_region_held3 (fun w' => w'.cell? ⟨w4.heap.size, 1, none⟩ = some (.string (bA x.bytes)) ∧ w'.cell? ⟨w4.heap.size, 2, none⟩ = some (.int .i64 (x.synced : Int)) ∧ w'.cell? ⟨bx, 0, none⟩ = some (.int .i64 room) ∧ w'.cell? ⟨bx, 1, none⟩ = some (.slice a D.length c))
        (first | exact h0 | exact hS _ h7.drop.drop.swap.drop | exact hS _ h6.drop.swap.drop | exact hS _ ((h7.p3.set (j := 0) _).set (j := 1) _).drop.drop.drop)
        (first
          | (go_at_call 83; refine (hV _ h5d.below).mono ?_; rintro y w6 ⟨v6, rfl, hs6⟩; have h6 := h5d.over hs6)
          | (go_at_call 82; refine (hW _ _ h6.q_row).mono ?_; rintro y w7 ⟨v7, rfl, hs7⟩; obtain ⟨a7, c7, rfl⟩ := hs7.q_row.len; have h7 := h6.over hs7; have y0 := h7.p3.pt_cell 0; have y1 := h7.p3.pt_cell 1; have z0 := h7.p3.pt_free 0; have z1 := h7.p3.pt_free 1; simp only [List.getElem?_toArray, List.getElem?_cons_zero, List.getElem?_cons_succ] at y0 y1))
      all_goals
        go_wp2_with fail
        have h8 := (h7.p3.set (j := 0) (.int .i64 room)).set (j := 1) (.slice a7 (putF ⟨t, x.bytes, x.synced⟩ (delF s D)).length c7)
        generalize (World.setCell _ _ _).setCell _ _ = wz at h8 ⊢
        have k0 := h8.pt_cell 0
        have k1 := h8.pt_cell 1
        simp only [List.setIfInBounds_toArray, List.set_cons_zero, List.set_cons_succ, List.getElem?_toArray, List.getElem?_cons_zero, List.getElem?_cons_succ] at k0 k1
        refine bodyPost_ret (v := .tuple #[qval room (.slice a7 (putF ⟨t, x.bytes, x.synced⟩ (delF s D)).length c7), .int .i64 0]) (by simp [results, Tryz.results87, go_sem, k0, k1]) rfl ?_
        rw [Ha.out]
        exact ⟨_, rfl, .inl ⟨rfl, h8.drop.swap.drop.swap.drop.swap.drop⟩⟩
end
end Go.Proofs.YtdngjkjoahgelaaGreatDoor

namespace Go.Proofs.YtdngjkjoahgelaaGreatDoor
set_option linter.all false
set_option maxRecDepth 100000
set_option maxHeartbeats 1000000
open Go.RowKit
theorem crashD_app (keep : List Int) : ∀ (A C : Fls) (k : Nat), crashD keep k (A ++ C) = crashD keep k A ++ crashD keep (k + A.length) C
  | [], C, k => by simp [crashD]
  | f :: A, C, k => by rw [List.cons_append, crashD, crashD_app keep A C (k + 1), crashD, List.cons_append, List.length_cons, Nat.add_assoc, Nat.add_comm 1]
theorem crashD_len (keep : List Int) (k : Nat) (D : Fls) : (crashD keep k D).length = D.length := by have := congrArg List.length (crashD_names keep k D); simpa using this
section
variable {B w w' : World} {L : List HP} {room : Int} {D : Fls} {v : Value}
theorem pqCrash (keep : List Int) {ka : Option Addr} {kc : Nat} (hk : reads w (.slice ka keep.length kc) keep.length (ints64 keep)) (hkl : keep.length ≤ 1000000) (hq : qR w v D) (hsy : ∀ f ∈ D, f.synced ≤ f.bytes.length) (hl : D.length ≤ 1000000) (hu : usedD D ≤ 1099511627776) :
    Calls Tryz.prog 30 #[qval room v, .slice ka keep.length kc] w fun y w' => ∃ v', y = .returned (qval room v') ∧ Sat w (qrow v' (crashD keep 0 D) :: []) w' := by
  obtain ⟨a, c, rfl⟩ := hq.len
  obtain ⟨n, hn⟩ : ∃ n, D.length = n := ⟨_, rfl⟩
  obtain ⟨kn, hkn⟩ : ∃ kn, keep.length = kn := ⟨_, rfl⟩
  obtain ⟨bx, hbx⟩ : ∃ bx, w.heap.size = bx := ⟨_, rfl⟩
  have h1 := (Sat.start w).alloc' (.cells #[.int .i64 room, .slice a n c] 54) (n := bx) hbx.symm
  have h2 := (h1.alloc' (.cells #[.int .i64 0, .slice none 0 0] 54) (n := bx + 1) (by simp [hbx]))
  have h3 : Sat w (row 117 3 (.slice none 0 0) 0 [] :: _) _ := Sat.row_nil h2 117 3
  have h4 : Sat w (qrow (.slice none 0 0) (crashD keep 0 (D.take 0)) :: pt (bx + 1) (.cells #[.int .i64 0, .slice none 0 0] 54) :: pt bx (.cells #[.int .i64 room, .slice a n c] 54) :: []) _ := h3
  have Hq0 := Lib.hid hq
  have Hk := Lib.hid hk
  have Hn := Lib.hid hn
  have Hkn := Lib.hid hkn
  have Hl := Lib.hid hl
  have Hus := Lib.hid hu
  have Hsy := Lib.hid hsy
  have n1 : (n : Int) ≤ 1000000 := by omega
  have n2 : (kn : Int) ≤ 1000000 := by omega
  rw [hn, hkn]
  clear hq h1 h2 h3 hl hn hk hkl hkn hu hsy
  go_enter Tryz.func30, Tryz.ntmps30
  go_wp2_with fail
  go_loopg [5, 6] (n + 1) (fun gh v5 v6 wr => ∃ i : Nat, i ≤ n ∧ n + 1 ≤ i + gh ∧ v6 = .int .i64 (i : Int) ∧ Sat w (qrow v5 (crashD keep 0 (D.take i)) :: pt (bx + 1) (.cells #[.int .i64 0, .slice none 0 0] 54) :: pt bx (.cells #[.int .i64 room, .slice a n c] 54) :: []) wr)
  case atStart => exact ⟨0, by omega, by omega, rfl, h4⟩
  case round =>
    obtain ⟨i, hi1, hi2, rfl, h5⟩ := hrel
    clear h4
    have x0 : wr.cell? ⟨bx, 0, none⟩ = some (.int .i64 room) := h5.p2.pt_cell 0
    have x1 : wr.cell? ⟨bx, 1, none⟩ = some (.slice a n c) := h5.p2.pt_cell 1
    by_cases hi : i < n
    · obtain ⟨x, hx⟩ : ∃ x, D[i]? = some x := ⟨_, List.getElem?_eq_getElem (by rw [Hn.out]; exact hi)⟩
      obtain ⟨g, off, c', e, c1, c2, c3⟩ := q_at (h5.qR Hq0.out) hx
      rw [Hn.out] at e
      cases e
      have i1 : (i : Int) < (n : Int) := by omega
      have htk : D.take (i + 1) = D.take i ++ [x] := by rw [List.take_add_one, hx]; rfl
      obtain ⟨E, hE⟩ : ∃ E, crashD keep 0 (D.take i) = E := ⟨_, rfl⟩
      have hEl : E.length = i := by
        rw [← hE, crashD_len, List.length_take, Hn.out]
        omega
      have Hel := Lib.hid hEl
      clear hEl
      have Hd := Lib.hid (show crashD keep 0 (D.take (i + 1)) = E ++ [crashF keep[i]? x] by
        rw [htk, crashD_app, hE, Nat.zero_add, List.length_take, Hn.out, Nat.min_eq_left hi1]; rfl)
      rw [hE] at h5
      have hmem := List.mem_of_getElem? hx
      have hsx := Hsy.out x hmem
      have hlf : x.bytes.length ≤ 1099511627776 := by
        have h5 := Hus.out
        obtain ⟨l1, l2, e⟩ := List.append_of_mem hmem
        rw [e, used_mid] at h5; omega
      have hz : (bA x.bytes).size = x.bytes.length := bA_size _
      obtain ⟨u, hue⟩ : ∃ u, x.bytes.length - x.synced = u := ⟨_, rfl⟩
      have Hu := Lib.hid hue
      have hui : ((x.bytes.length : Int) - (x.synced : Int)) = (u : Int) := by omega
      have u2 : (u : Int) ≤ 1099511627776 := by omega
      have s2 : (x.synced : Int) ≤ 1099511627776 := by omega
      have l2 : (x.bytes.length : Int) ≤ 1099511627776 := by omega
      have h6 := h5.alloc (.cells #[.string (bA x.name), .string (bA x.bytes), .int .i64 (x.synced : Int)] 117)
      clear htk hE hmem hue
      by_cases hik : i < kn
      · have i2 : (i : Int) < (kn : Int) := by omega
        obtain ⟨z, hz1⟩ : ∃ z, keep[i]? = some z := ⟨_, List.getElem?_eq_getElem (by rw [Hkn.out]; exact hik)⟩
        obtain ⟨t, ht, t1, t2, t3, t4⟩ := left_mod z u
        have hrk := h5.reads Hk.out
        obtain ⟨kb, ko, rfl, ck⟩ : ∃ kb ko, ka = some ⟨kb, ko, none⟩ ∧ wr.cell? ⟨kb, ko + i, none⟩ = some (.int .i64 z) := by
          obtain ⟨ka', kc', e, _, _, _, hc⟩ := hrk
          cases e
          obtain ⟨b, off, h1, h2⟩ := hc i (.int .i64 z) (by rw [ints64, List.getElem?_map, hz1]; rfl)
          exact ⟨b, off, h1, h2⟩
        have hnz : ((u : Int) + 1 == 0) = false := beq_eq_false_iff_ne.2 (by omega)
        have hbk := block_lt_of_cell ck
        clear hrk
        by_cases ht0 : 0 ≤ t
        · obtain ⟨q, rfl⟩ : ∃ q : Nat, t = (q : Int) := ⟨t.toNat, by omega⟩
          have Hq := Lib.hid (show leftOf keep[i]? u = q by rw [hz1]; have := t3 ht0; omega)
          clear t3 t4 hz1 hx
          go_wp2_with fail
          have hql := leftOf_le keep[i]? u
          rw [Hq.out] at hql
          have b7 : (x.synced : Int) + (q : Int) ≤ (x.bytes.length : Int) := by omega
          have b8 : 0 ≤ (x.synced : Int) + (q : Int) := by omega
          have b9 : (x.synced : Int) + (q : Int) ≤ 9223372036854775807 := by omega
          have bw : IntKind.i64.wrap ((x.synced : Int) + (q : Int)) = (x.synced : Int) + (q : Int) := i64_id2 (by omega) (by omega)
          obtain ⟨tb, htb⟩ : ∃ tb, x.bytes.take (x.synced + q) = tb := ⟨_, rfl⟩
          have hex : (bA x.bytes).extract 0 ((x.synced : Int) + (q : Int)).toNat = bA tb := by rw [ext_take x.bytes _ (x.synced + q) (by omega), htb]
          have Htb := Lib.hid htb
          have Hcf := Lib.hid (show [crashF keep[i]? x].flatMap qC = [.string (bA x.name), .string (bA tb), .int .i64 ((x.synced : Int) + (q : Int))] by simp [crashF, qC, Hu.out, Hq.out, htb])
          clear htb
          generalize wr.alloc (.cells #[.string (bA x.name), .string (bA x.bytes), .int .i64 (x.synced : Int)] 117) = w6 at h6 ⊢
          generalize wr.heap.size = hb at h6 ⊢
          have hS : ∀ w' (L' : List HP), Sat w (pt hb (.cells #[.string (bA x.name), .string (bA x.bytes), .int .i64 (x.synced : Int)] 117) :: L') w' → w'.cell? ⟨hb, 0, none⟩ = some (.string (bA x.name)) ∧ w'.cell? ⟨hb, 1, none⟩ = some (.string (bA x.bytes)) ∧ w'.cell? ⟨hb, 2, none⟩ = some (.int .i64 (x.synced : Int)) := fun w' L' h => ⟨h.pt_cell 0, h.pt_cell 1, h.pt_cell 2⟩
          have h6d := h6.drew
          have h0 := hS _ _ h6d
          have h8 := (h6d.alloc (.cells #[.string (bA x.name), .string (bA tb), .int .i64 ((x.synced : Int) + (q : Int))] 117)).p2
          have h8' : Sat w (row 117 3 u5 E.length (E.flatMap qC) :: _) _ := h8
          have d1 : E.length + 1 ≤ maxLen := by have := Hel.out; unfold maxLen; omega
          have d2 : (E.length + 1) * 40 ≤ 140737488355328 := by have := Hel.out; omega
          have hone : ∀ u ∈ ([.string (bA x.name), .string (bA tb), .int .i64 ((x.synced : Int) + (q : Int))] : List Value), u.oneCell' = true := by
            intro u hu
            simp only [List.mem_cons, List.not_mem_nil, or_false] at hu
            rcases hu with rfl | rfl | rfl <;> rfl
          have hrn : reads (w6.drew.alloc (.cells #[.string (bA x.name), .string (bA tb), .int .i64 ((x.synced : Int) + (q : Int))] 117)) (.slice (some ⟨w6.heap.size, 0, none⟩) 1 1) 1 [.string (bA x.name), .string (bA tb), .int .i64 ((x.synced : Int) + (q : Int))] := reads_new _ _ rfl (by omega)
          go_region_held3 (fun w' => w'.cell? ⟨hb, 0, none⟩ = some (.string (bA x.name)) ∧ w'.cell? ⟨hb, 1, none⟩ = some (.string (bA x.bytes)) ∧ w'.cell? ⟨hb, 2, none⟩ = some (.int .i64 (x.synced : Int)))
            (first | exact h0 | exact hS _ _ (h6.alloc _).drew.swap | exact hS _ _ h9.p2 | exact hS _ _ (h6d.alloc _).swap)
            (first
              | (refine step_append_row rfl qElem (.tmp 45) (.tmp 60) rfl u5 _ E.length 1 (E.flatMap qC) [.string (bA x.name), .string (bA tb), .int .i64 ((x.synced : Int) + (q : Int))] rfl rfl h8' hrn rfl hone d1 d2 ?_; intro a' c' w8 h9))
          all_goals
            go_wp2_with fail
            go_roundg (gk - 1)
            case measure => omega
            case rel =>
              refine ⟨i + 1, by omega, by omega, by go_num, ?_⟩
              rw [Hd.out]
              exact Sat.q_own h9.swap.drop.swap.drop (by simp) (by rw [qc_cat, Hcf.out])
        · have t5 : t < 0 := by omega
          obtain ⟨q, hq⟩ : ∃ q : Nat, t + (u : Int) + 1 = (q : Int) := ⟨(t + (u : Int) + 1).toNat, by omega⟩
          have Hq := Lib.hid (show leftOf keep[i]? u = q by rw [hz1]; have := t4 t5; omega)
          clear t3 t4 hz1 hx
          go_wp2_with fail
          have hql := leftOf_le keep[i]? u
          rw [Hq.out] at hql
          have b7 : (x.synced : Int) + (q : Int) ≤ (x.bytes.length : Int) := by omega
          have b8 : 0 ≤ (x.synced : Int) + (q : Int) := by omega
          have b9 : (x.synced : Int) + (q : Int) ≤ 9223372036854775807 := by omega
          have bw : IntKind.i64.wrap ((x.synced : Int) + (q : Int)) = (x.synced : Int) + (q : Int) := i64_id2 (by omega) (by omega)
          obtain ⟨tb, htb⟩ : ∃ tb, x.bytes.take (x.synced + q) = tb := ⟨_, rfl⟩
          have hex : (bA x.bytes).extract 0 ((x.synced : Int) + (q : Int)).toNat = bA tb := by rw [ext_take x.bytes _ (x.synced + q) (by omega), htb]
          have Htb := Lib.hid htb
          have Hcf := Lib.hid (show [crashF keep[i]? x].flatMap qC = [.string (bA x.name), .string (bA tb), .int .i64 ((x.synced : Int) + (q : Int))] by simp [crashF, qC, Hu.out, Hq.out, htb])
          clear htb
          generalize wr.alloc (.cells #[.string (bA x.name), .string (bA x.bytes), .int .i64 (x.synced : Int)] 117) = w6 at h6 ⊢
          generalize wr.heap.size = hb at h6 ⊢
          have hS : ∀ w' (L' : List HP), Sat w (pt hb (.cells #[.string (bA x.name), .string (bA x.bytes), .int .i64 (x.synced : Int)] 117) :: L') w' → w'.cell? ⟨hb, 0, none⟩ = some (.string (bA x.name)) ∧ w'.cell? ⟨hb, 1, none⟩ = some (.string (bA x.bytes)) ∧ w'.cell? ⟨hb, 2, none⟩ = some (.int .i64 (x.synced : Int)) := fun w' L' h => ⟨h.pt_cell 0, h.pt_cell 1, h.pt_cell 2⟩
          have h6d := h6.drew
          have h0 := hS _ _ h6d
          have h8 := (h6d.alloc (.cells #[.string (bA x.name), .string (bA tb), .int .i64 ((x.synced : Int) + (q : Int))] 117)).p2
          have h8' : Sat w (row 117 3 u5 E.length (E.flatMap qC) :: _) _ := h8
          have d1 : E.length + 1 ≤ maxLen := by have := Hel.out; unfold maxLen; omega
          have d2 : (E.length + 1) * 40 ≤ 140737488355328 := by have := Hel.out; omega
          have hone : ∀ u ∈ ([.string (bA x.name), .string (bA tb), .int .i64 ((x.synced : Int) + (q : Int))] : List Value), u.oneCell' = true := by
            intro u hu
            simp only [List.mem_cons, List.not_mem_nil, or_false] at hu
            rcases hu with rfl | rfl | rfl <;> rfl
          have hrn : reads (w6.drew.alloc (.cells #[.string (bA x.name), .string (bA tb), .int .i64 ((x.synced : Int) + (q : Int))] 117)) (.slice (some ⟨w6.heap.size, 0, none⟩) 1 1) 1 [.string (bA x.name), .string (bA tb), .int .i64 ((x.synced : Int) + (q : Int))] := reads_new _ _ rfl (by omega)
          go_region_held3 (fun w' => w'.cell? ⟨hb, 0, none⟩ = some (.string (bA x.name)) ∧ w'.cell? ⟨hb, 1, none⟩ = some (.string (bA x.bytes)) ∧ w'.cell? ⟨hb, 2, none⟩ = some (.int .i64 (x.synced : Int)))
            (first | exact h0 | exact hS _ _ (h6.alloc _).drew.swap | exact hS _ _ h9.p2 | exact hS _ _ (h6d.alloc _).swap)
            (first
              | (refine step_append_row rfl qElem (.tmp 45) (.tmp 60) rfl u5 _ E.length 1 (E.flatMap qC) [.string (bA x.name), .string (bA tb), .int .i64 ((x.synced : Int) + (q : Int))] rfl rfl h8' hrn rfl hone d1 d2 ?_; intro a' c' w8 h9))
          all_goals
            go_wp2_with fail
            go_roundg (gk - 1)
            case measure => omega
            case rel =>
              refine ⟨i + 1, by omega, by omega, by go_num, ?_⟩
              rw [Hd.out]
              exact Sat.q_own h9.swap.drop.swap.drop (by simp) (by rw [qc_cat, Hcf.out])
      · have i2 : ¬ (i : Int) < (kn : Int) := by omega
        have Hq := Lib.hid (show leftOf keep[i]? u = 0 by rw [List.getElem?_eq_none (by rw [Hkn.out]; omega)]; rfl)
        clear hx
        go_wp2_with fail
        have b7 : (x.synced : Int) ≤ (x.bytes.length : Int) := by omega
        have b7' : x.synced ≤ x.bytes.length := by omega
        have b8 : 0 ≤ (x.synced : Int) := by omega
        have b9 : (x.synced : Int) ≤ 9223372036854775807 := by omega
        have bw : IntKind.i64.wrap (x.synced : Int) = (x.synced : Int) := i64_id2 (by omega) (by omega)
        obtain ⟨tb, htb⟩ : ∃ tb, x.bytes.take (x.synced) = tb := ⟨_, rfl⟩
        have hex : (bA x.bytes).extract 0 x.synced = bA tb := by rw [← htb]; exact ext_take x.bytes (x.synced : Int) x.synced rfl
        have Htb := Lib.hid htb
        have Hcf := Lib.hid (show [crashF keep[i]? x].flatMap qC = [.string (bA x.name), .string (bA tb), .int .i64 (x.synced : Int)] by simp [crashF, qC, Hu.out, Hq.out, htb])
        clear htb
        generalize wr.alloc (.cells #[.string (bA x.name), .string (bA x.bytes), .int .i64 (x.synced : Int)] 117) = w6 at h6 ⊢
        generalize wr.heap.size = hb at h6 ⊢
        have hS : ∀ w' (L' : List HP), Sat w (pt hb (.cells #[.string (bA x.name), .string (bA x.bytes), .int .i64 (x.synced : Int)] 117) :: L') w' → w'.cell? ⟨hb, 0, none⟩ = some (.string (bA x.name)) ∧ w'.cell? ⟨hb, 1, none⟩ = some (.string (bA x.bytes)) ∧ w'.cell? ⟨hb, 2, none⟩ = some (.int .i64 (x.synced : Int)) := fun w' L' h => ⟨h.pt_cell 0, h.pt_cell 1, h.pt_cell 2⟩
        have h6d := h6.drew
        have h0 := hS _ _ h6d
        have h8 := (h6d.alloc (.cells #[.string (bA x.name), .string (bA tb), .int .i64 (x.synced : Int)] 117)).p2
        have h8' : Sat w (row 117 3 u5 E.length (E.flatMap qC) :: _) _ := h8
        have d1 : E.length + 1 ≤ maxLen := by have := Hel.out; unfold maxLen; omega
        have d2 : (E.length + 1) * 40 ≤ 140737488355328 := by have := Hel.out; omega
        have hone : ∀ u ∈ ([.string (bA x.name), .string (bA tb), .int .i64 (x.synced : Int)] : List Value), u.oneCell' = true := by
          intro u hu
          simp only [List.mem_cons, List.not_mem_nil, or_false] at hu
          rcases hu with rfl | rfl | rfl <;> rfl
        have hrn : reads (w6.drew.alloc (.cells #[.string (bA x.name), .string (bA tb), .int .i64 (x.synced : Int)] 117)) (.slice (some ⟨w6.heap.size, 0, none⟩) 1 1) 1 [.string (bA x.name), .string (bA tb), .int .i64 (x.synced : Int)] := reads_new _ _ rfl (by omega)
        go_region_held3 (fun w' => w'.cell? ⟨hb, 0, none⟩ = some (.string (bA x.name)) ∧ w'.cell? ⟨hb, 1, none⟩ = some (.string (bA x.bytes)) ∧ w'.cell? ⟨hb, 2, none⟩ = some (.int .i64 (x.synced : Int)))
          (first | exact h0 | exact hS _ _ (h6.alloc _).drew.swap | exact hS _ _ h9.p2 | exact hS _ _ (h6d.alloc _).swap)
          (first
            | (refine step_append_row rfl qElem (.tmp 45) (.tmp 60) rfl u5 _ E.length 1 (E.flatMap qC) [.string (bA x.name), .string (bA tb), .int .i64 (x.synced : Int)] rfl rfl h8' hrn rfl hone d1 d2 ?_; intro a' c' w8 h9))
        all_goals
          go_wp2_with fail
          go_roundg (gk - 1)
          case measure => omega
          case rel =>
            refine ⟨i + 1, by omega, by omega, by go_num, ?_⟩
            rw [Hd.out]
            exact Sat.q_own h9.swap.drop.swap.drop (by simp) (by rw [qc_cat, Hcf.out])
    · obtain rfl : i = n := by omega
      have hni : ¬ (i : Int) < (i : Int) := by omega
      have htk : D.take i = D := List.take_of_length_le (by rw [Hn.out]; exact Nat.le_refl _)
      rw [htk] at h5
      have hqr := h5.q_row
      obtain ⟨a5, c5, rfl⟩ := hqr.len
      obtain ⟨n5, hn5⟩ : ∃ n5, (crashD keep 0 D).length = n5 := ⟨_, rfl⟩
      rw [hn5] at h5 ⊢
      have y0 : wr.cell? ⟨bx + 1, 0, none⟩ = some (.int .i64 0) := h5.swap.pt_cell 0
      have y1 : wr.cell? ⟨bx + 1, 1, none⟩ = some (.slice none 0 0) := h5.swap.pt_cell 1
      have z0 := h5.swap.pt_free 0
      have z1 := h5.swap.pt_free 1
      clear htk hqr
      go_wp2_with fail
      have h6 := (h5.swap.set (j := 0) (.int .i64 room)).set (j := 1) (.slice a5 n5 c5)
      generalize (wr.setCell _ _).setCell _ _ = wz at h6 ⊢
      have k0 := h6.pt_cell 0
      have k1 := h6.pt_cell 1
      simp only [List.setIfInBounds_toArray, List.set_cons_zero, List.set_cons_succ, List.getElem?_toArray, List.getElem?_cons_zero, List.getElem?_cons_succ] at k0 k1
      refine bodyPost_ret (v := qval room (.slice a5 n5 c5)) ?_ rfl ?_
      · simp [results, Tryz.results30, go_sem, k0, k1]
      · refine ⟨_, rfl, ?_⟩
        rw [← hn5] at h6 ⊢
        exact h6.drop.swap.drop
end
end Go.Proofs.YtdngjkjoahgelaaGreatDoor

namespace Go.Proofs.YtdngjkjoahgelaaGreatDoor
set_option linter.all false
set_option maxRecDepth 100000
set_option maxHeartbeats 1000000
open Go.RowKit
theorem list_app (A C : Fls) (p : Bt) : listD (A ++ C) p = listD A p ++ listD C p := by simp [listD]
theorem pre_take (p s : Bt) : p.isPrefixOf s = (decide (p.length ≤ s.length) && (s.take p.length == p)) := by
  rw [Bool.eq_iff_iff, pref_iff]
  simp only [Bool.and_eq_true, decide_eq_true_eq, beq_iff_eq]
  constructor
  · rintro ⟨t, rfl⟩
    exact ⟨by simp, by simp⟩
  · rintro ⟨h1, h2⟩
    exact ⟨s.drop p.length, by have := List.take_append_drop p.length s; rw [h2] at this; exact this.symm⟩
section
variable {B w w' : World} {L : List HP} {room : Int} {D : Fls} {v : Value}
theorem pqList (p : Bt) (hp : p.length ≤ 1000000) (hq : qR w v D) (hl : D.length ≤ 1000000) (hnl : ∀ f ∈ D, f.name.length ≤ 1000000) :
    Calls Tryz.prog 84 #[qval room v, .string (bA p)] w fun y w' => ∃ v', y = .returned v' ∧ Sat w (row 9 1 v' (listD D p).length (strB (listD D p)) :: []) w' := by
  obtain ⟨a, c, rfl⟩ := hq.len
  obtain ⟨n, hn⟩ : ∃ n, D.length = n := ⟨_, rfl⟩
  obtain ⟨bx, hbx⟩ : ∃ bx, w.heap.size = bx := ⟨_, rfl⟩
  obtain ⟨m, hm⟩ : ∃ m, p.length = m := ⟨_, rfl⟩
  have h1 := (Sat.start w).alloc' (.cells #[.int .i64 room, .slice a n c] 54) (n := bx) hbx.symm
  have h4 : Sat w (row 9 1 (.slice none 0 0) (listD (D.take 0) p).length (strB (listD (D.take 0) p)) :: pt bx (.cells #[.int .i64 room, .slice a n c] 54) :: []) _ := Sat.row_nil h1 9 1
  have hzp : (bA p).size = m := by rw [bA_size, hm]
  have Hq := Lib.hid hq
  have Hn := Lib.hid hn
  have Hl := Lib.hid hl
  have Hm := Lib.hid hm
  have Hnl := Lib.hid hnl
  have n1 : (n : Int) ≤ 1000000 := by omega
  rw [hn]
  clear hq h1 hl hn hnl
  go_enter Tryz.func84, Tryz.ntmps84
  go_wp2_with fail
  go_loopg [5, 6] (n + 1) (fun gh v5 v6 wr => ∃ i : Nat, i ≤ n ∧ n + 1 ≤ i + gh ∧ v6 = .int .i64 (i : Int) ∧ Sat w (row 9 1 v5 (listD (D.take i) p).length (strB (listD (D.take i) p)) :: pt bx (.cells #[.int .i64 room, .slice a n c] 54) :: []) wr)
  case atStart => exact ⟨0, by omega, by omega, rfl, h4⟩
  case round =>
    obtain ⟨i, hi1, hi2, rfl, h5⟩ := hrel
    clear h4
    have x1 : wr.cell? ⟨bx, 1, none⟩ = some (.slice a n c) := h5.swap.pt_cell 1
    by_cases hi : i < n
    · obtain ⟨x, hx⟩ : ∃ x, D[i]? = some x := ⟨_, List.getElem?_eq_getElem (by rw [Hn.out]; exact hi)⟩
      obtain ⟨g, off, c', e, c1, c2, c3⟩ := q_at (h5.qR Hq.out) hx
      rw [Hn.out] at e
      cases e
      have i1 : (i : Int) < (n : Int) := by omega
      have htk : D.take (i + 1) = D.take i ++ [x] := by rw [List.take_add_one, hx]; rfl
      obtain ⟨E, hE⟩ : ∃ E, listD (D.take i) p = E := ⟨_, rfl⟩
      have hEl : E.length ≤ i := by
        rw [← hE, listD]
        exact Nat.le_trans (List.length_filter_le _ _) (by rw [List.length_map, List.length_take]; omega)
      have hzx : (bA x.name).size = x.name.length := bA_size _
      have hxl := Hnl.out x (List.mem_of_getElem? hx)
      obtain ⟨k, hk⟩ : ∃ k, x.name.length = k := ⟨_, rfl⟩
      have hd0 : listD (D.take (i + 1)) p = E ++ (if p.isPrefixOf x.name = true then [x.name] else []) := by
        rw [htk, list_app, hE]
        congr 1
        simp only [listD, List.map_cons, List.map_nil, List.filter_cons, List.filter_nil]
      rw [pre_take, Hm.out, hk] at hd0
      rw [hk] at hzx hxl
      have hex : (bA x.name).extract 0 m = bA (x.name.take m) := ext_take x.name (m : Int) m rfl
      have k1 : (k : Int) ≤ 1000000 := by omega
      rw [hE] at h5
      clear htk hE hx c2 c3 hk
      by_cases hmk : m ≤ k
      · have b0 : (k : Int) ≥ (m : Int) := by omega
        have b0' : (m : Int) ≤ (k : Int) := by omega
        by_cases hs : x.name.take m = p
        · have hd : listD (D.take (i + 1)) p = E ++ [x.name] := by rw [hd0]; simp [hmk, hs]
          have Hd := Lib.hid hd
          have b1 : (x.name.take m == p) = true := by simpa using hs
          have d1 : E.length + 1 ≤ maxLen := by have := Hl.out; have := Hn.out; unfold maxLen; omega
          have d2 : (E.length + 1) * 16 ≤ 140737488355328 := by have := Hl.out; have := Hn.out; omega
          have h6 := (h5.alloc (.cells #[.string (bA x.name)] 9)).swap
          clear hd hd0 hs hm hEl
          go_wp2_with (at_builtin; refine wpList_append_row rfl strElem (.tmp 34) (.tmp 36) rfl u5 _ E.length 1 (strB E) [.string (bA x.name)] rfl rfl h6 (reads_new _ _ rfl (by omega)) rfl (by simp [Value.oneCell']) d1 d2 ?_; intro a' c' w8 h8; go_frame)
          go_roundg (gk - 1)
          case measure => omega
          case rel =>
            refine ⟨i + 1, by omega, by omega, by go_num, ?_⟩
            rw [Hd.out, List.length_append]
            have h9 := h8.swap.drop
            have es : strB (E ++ [x.name]) = strB E ++ [.string (bA x.name)] := by simp [strB]
            rw [es]
            exact h9
        · have hd : listD (D.take (i + 1)) p = E := by rw [hd0]; simp [hmk, hs]
          have Hd := Lib.hid hd
          have b1 : (x.name.take m == p) = false := by simpa using hs
          clear hd hd0 hs hm
          go_wp2_with fail
          go_roundg (gk - 1)
          case measure => omega
          case rel => exact ⟨i + 1, by omega, by omega, by go_num, by rw [Hd.out]; exact h5⟩
      · have b0 : ¬ (k : Int) ≥ (m : Int) := by omega
        have b0' : ¬ (m : Int) ≤ (k : Int) := by omega
        have hd : listD (D.take (i + 1)) p = E := by rw [hd0]; simp [hmk]
        have Hd := Lib.hid hd
        clear hd hd0 hm
        go_wp2_with fail
        go_roundg (gk - 1)
        case measure => omega
        case rel => exact ⟨i + 1, by omega, by omega, by go_num, by rw [Hd.out]; exact h5⟩
    · obtain rfl : i = n := by omega
      have hni : ¬ (i : Int) < (i : Int) := by omega
      have htk : D.take i = D := List.take_of_length_le (by rw [Hn.out]; exact Nat.le_refl _)
      rw [htk] at h5
      clear htk
      go_wp2_with fail
      go_ret
      exact ⟨_, rfl, h5.swap.drop⟩
end
end Go.Proofs.YtdngjkjoahgelaaGreatDoor
