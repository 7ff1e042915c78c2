/-
  Script: the law's own little run: a script there and back.
-/
import Derived.Test.YtcjindifdghpgaaGreatDoorScrD
import Derived.Test.YtcjindifdghpgaaGreatDoorScr6
import Derived.Deep.RegionHeld3
namespace Go.Proofs.YtcjindifdghpgaaGreatDoor
open Go.RowKit
section
variable {B w : World} {L : List HP}
abbrev wtxt : Bs := [115, 101, 116, 117, 112, 32, 51, 32, 49, 32, 52, 32, 49, 32, 50, 32, 49, 32, 52, 48, 57, 54, 32, 49, 32, 52, 10, 48, 48, 102, 102, 10]
theorem print_txt : printL [3, 1, 4, 1, 2, 1, 4096, 1, 4] [0, 255] = wtxt := by
  have d1 : Lib.decDigits (Int.toNat 1) = [49] := ((num_iff [49] 1).1 (by decide)).symm
  have d2 : Lib.decDigits (Int.toNat 2) = [50] := ((num_iff [50] 2).1 (by decide)).symm
  have d3 : Lib.decDigits (Int.toNat 3) = [51] := ((num_iff [51] 3).1 (by decide)).symm
  have d4 : Lib.decDigits (Int.toNat 4) = [52] := ((num_iff [52] 4).1 (by decide)).symm
  have d5 : Lib.decDigits (Int.toNat 4096) = [52, 48, 57, 54] := ((num_iff [52, 48, 57, 54] 4096).1 (by decide)).symm
  rw [printL, bodyL_cons (by simp), show ([0, 255] : Bs).drop 32 = [] from rfl, bodyL_nil]
  simp only [lineL, List.flatMap_cons, List.flatMap_nil, d1, d2, d3, d4, d5]
  decide
theorem parse_txt : parseL wtxt = .ok ([3, 1, 4, 1, 2, 1, 4096, 1, 4], [0, 255]) := by
  have hs : splL 10 wtxt = [[115, 101, 116, 117, 112, 32, 51, 32, 49, 32, 52, 32, 49, 32, 50, 32, 49, 32, 52, 48, 57, 54, 32, 49, 32, 52], [48, 48, 102, 102], []] := by decide
  have h1 : splL 32 [115, 101, 116, 117, 112, 32, 51, 32, 49, 32, 52, 32, 49, 32, 50, 32, 49, 32, 52, 48, 57, 54, 32, 49, 32, 52] = [[115, 101, 116, 117, 112], [51], [49], [52], [49], [50], [49], [52, 48, 57, 54], [49], [52]] := by decide
  have h2 : numsL [[51], [49], [52], [49], [50], [49], [52, 48, 57, 54], [49], [52]] = some [3, 1, 4, 1, 2, 1, 4096, 1, 4] := by decide
  have h3 : unhexL [48, 48, 102, 102] = some [0, 255] := by decide
  rw [parseL, if_neg (by decide), hs, parseLs, setupL, h1, setupW, if_pos (by decide), h2]
  rfl
abbrev wS : Value := .agg #[.int .i64 3, .int .i64 1, .int .i64 4, .int .i64 1, .int .i64 2, .int .i64 1, .int .i64 4096, .int .i64 1, .int .i64 4]
theorem psetupc (h : Sat B L w) : Calls Tryz.prog 19 #[] w fun y w' => y = .returned wS ∧ Sat B L w' := by
  have h2 := h.alloc' (.cells #[.int .i64 3, .int .i64 1, .int .i64 4, .int .i64 1, .int .i64 2, .int .i64 1, .int .i64 4096, .int .i64 1, .int .i64 4] 28) (n := w.heap.size) rfl
  go_enter Tryz.func19, Tryz.ntmps19
  go_wp2_with fail
  exact bodyPost_ret (v := wS) (by simp [results, Tryz.results19, go_sem]) rfl ⟨rfl, h2.drop⟩
theorem eq_wS (w : World) : (binOp BinOp.eql 28 wS wS).run Tryz.prog w = .ok (.bool true) w := by kernel_rfl
theorem conv_row {a : Option Addr} {n c : Nat} {bs : Bs} (h : reads w (.slice a n c) n (u8s bs)) (hn : bs.length = n) : (convert 23 9 (.slice a n c)).run Tryz.prog w = .ok (.string ⟨bs.toArray⟩) w :=
  run_bytes_string Tryz.underlying23 Tryz.underlying5 Tryz.underlying9 h hn
theorem parsed_txt {y : Ending} {w' : World} (h : parsed B L wtxt y w') : ∃ (ra : Option Addr) (rc : Nat), y = .returned (.tuple #[wS, .slice ra 2 rc, .nilIface]) ∧ Sat B (row 5 1 (.slice ra 2 rc) 2 (u8s [0, 255]) :: L) w' := by
  rcases h with ⟨a, b, c, d, e, f, g, i, j, raw, ra, m, rc, hp, rfl, hm, hS⟩ | ⟨c, i, p, hp, _⟩
  · rw [parse_txt] at hp
    cases hp
    cases hm
    exact ⟨ra, rc, rfl, hS⟩
  · rw [parse_txt] at hp; cases hp
theorem ptxt : (⟨(printL [3, 1, 4, 1, 2, 1, 4096, 1, 4] [0, 255]).toArray⟩ : ByteArray) = ⟨#[115, 101, 116, 117, 112, 32, 51, 32, 49, 32, 52, 32, 49, 32, 50, 32, 49, 32, 52, 48, 57, 54, 32, 49, 32, 52, 10, 48, 48, 102, 102, 10]⟩ := by rw [print_txt]
abbrev wO : Obj := .cells #[.int .i64 3, .int .i64 1, .int .i64 4, .int .i64 1, .int .i64 2, .int .i64 1, .int .i64 4096, .int .i64 1, .int .i64 4] 28
theorem eq_txt (w : World) : (binOp BinOp.eql 9 (.string ⟨#[115, 101, 116, 117, 112, 32, 51, 32, 49, 32, 52, 32, 49, 32, 50, 32, 49, 32, 52, 48, 57, 54, 32, 49, 32, 52, 10, 48, 48, 102, 102, 10]⟩) (.string ⟨#[115, 101, 116, 117, 112, 32, 51, 32, 49, 32, 52, 32, 49, 32, 50, 32, 49, 32, 52, 48, 57, 54, 32, 49, 32, 52, 10, 48, 48, 102, 102, 10]⟩)).run Tryz.prog w = .ok (.bool true) w := by kernel_rfl
theorem eq_two (w : World) : (binOp BinOp.eql 9 (.string ⟨#[0, 255]⟩) (.string ⟨#[0, 255]⟩)).run Tryz.prog w = .ok (.bool true) w := by kernel_rfl
theorem wS_cells {b : Nat} (h : Sat B (pt b (.cells #[.int .i64 3, .int .i64 1, .int .i64 4, .int .i64 1, .int .i64 2, .int .i64 1, .int .i64 4096, .int .i64 1, .int .i64 4] 28) :: L) w) :
    w.cell? ⟨b, 0, none⟩ = some (.int .i64 3) ∧ w.cell? ⟨b, 1, none⟩ = some (.int .i64 1) ∧ w.cell? ⟨b, 2, none⟩ = some (.int .i64 4) ∧ w.cell? ⟨b, 3, none⟩ = some (.int .i64 1) ∧ w.cell? ⟨b, 4, none⟩ = some (.int .i64 2) ∧
    w.cell? ⟨b, 5, none⟩ = some (.int .i64 1) ∧ w.cell? ⟨b, 6, none⟩ = some (.int .i64 4096) ∧ w.cell? ⟨b, 7, none⟩ = some (.int .i64 1) ∧ w.cell? ⟨b, 8, none⟩ = some (.int .i64 4) :=
  ⟨h.pt_cell 0, h.pt_cell 1, h.pt_cell 2, h.pt_cell 3, h.pt_cell 4, h.pt_cell 5, h.pt_cell 6, h.pt_cell 7, h.pt_cell 8⟩
set_option maxHeartbeats 4000000 in
set_option maxRecDepth 100000 in
theorem pworks (hE : Env w) : Calls Tryz.prog 12 #[] w fun y w' => y = .returned (.bool true) ∧ Below w.heap.size w w' := by
  have h := Sat.start w
  go_enter Tryz.func12, Tryz.ntmps12
  go_wp2_with (first
    | (go_at_call 19; refine (psetupc h).mono ?_; rintro e w1 ⟨rfl, h1⟩)
    | (go_at_call 6;
        have hA := h1.alloc' (.cells #[.int .u8 0, .int .u8 255] 5) (n := w1.heap.size) rfl;
        refine (pprint_ok (hE.at hA) 3 1 4 1 2 1 4096 1 4 _ 2 2 [0, 255] (by decide) (by omega) rfl (reads_new _ _ rfl (by omega))).mono ?_;
        rintro e w2 ⟨rfl, hb2⟩; rw [ptxt];
        have h2 := hA.of_below hb2)
    | (go_at_call 7; refine (pparse hE h2 _).mono ?_; rintro e w3 hp; obtain ⟨ra, rc, rfl, h3⟩ := parsed_txt hp; clear hp))
  have h4 := h3.alloc' (.cells #[.int .i64 3, .int .i64 1, .int .i64 4, .int .i64 1, .int .i64 2, .int .i64 1, .int .i64 4096, .int .i64 1, .int .i64 4] 28) (n := w3.heap.size) rfl
  generalize w3.alloc (.cells #[.int .i64 3, .int .i64 1, .int .i64 4, .int .i64 1, .int .i64 2, .int .i64 1, .int .i64 4096, .int .i64 1, .int .i64 4] 28) = w4 at h4 ⊢
  generalize w3.heap.size = b4 at h4 ⊢
  generalize w1.heap.size = b1 at h4 ⊢
  clear h3 h2 hb2 hA h1
  have hS : ∀ w', Sat w (pt b4 wO :: row 5 1 (.slice ra 2 rc) 2 (u8s [0, 255]) :: [pt b1 (.cells #[.int .u8 0, .int .u8 255] 5)]) w' → w'.cell? ⟨b4, 0, none⟩ = some (.int .i64 3) ∧ w'.cell? ⟨b4, 1, none⟩ = some (.int .i64 1) ∧ w'.cell? ⟨b4, 2, none⟩ = some (.int .i64 4) ∧ w'.cell? ⟨b4, 3, none⟩ = some (.int .i64 1) ∧ w'.cell? ⟨b4, 4, none⟩ = some (.int .i64 2) ∧ w'.cell? ⟨b4, 5, none⟩ = some (.int .i64 1) ∧ w'.cell? ⟨b4, 6, none⟩ = some (.int .i64 4096) ∧ w'.cell? ⟨b4, 7, none⟩ = some (.int .i64 1) ∧ w'.cell? ⟨b4, 8, none⟩ = some (.int .i64 4) ∧ (convert 23 9 (.slice ra 2 rc)).run Tryz.prog w' = .ok (.string ⟨#[0, 255]⟩) w' ∧ Sat w (pt b4 wO :: row 5 1 (.slice ra 2 rc) 2 (u8s [0, 255]) :: [pt b1 (.cells #[.int .u8 0, .int .u8 255] 5)]) w' := fun w' h' => ⟨h'.pt_cell 0, h'.pt_cell 1, h'.pt_cell 2, h'.pt_cell 3, h'.pt_cell 4, h'.pt_cell 5, h'.pt_cell 6, h'.pt_cell 7, h'.pt_cell 8, conv_row h'.swap.row_reads rfl, h'⟩
  have h0 := hS _ h4.drew
  have heq := eq_wS
  have hse := eq_txt
  have hs2 := eq_two
  clear hE h
  go_region_held3 (fun w' => w'.cell? ⟨b4, 0, none⟩ = some (.int .i64 3) ∧ w'.cell? ⟨b4, 1, none⟩ = some (.int .i64 1) ∧ w'.cell? ⟨b4, 2, none⟩ = some (.int .i64 4) ∧ w'.cell? ⟨b4, 3, none⟩ = some (.int .i64 1) ∧ w'.cell? ⟨b4, 4, none⟩ = some (.int .i64 2) ∧ w'.cell? ⟨b4, 5, none⟩ = some (.int .i64 1) ∧ w'.cell? ⟨b4, 6, none⟩ = some (.int .i64 4096) ∧ w'.cell? ⟨b4, 7, none⟩ = some (.int .i64 1) ∧ w'.cell? ⟨b4, 8, none⟩ = some (.int .i64 4) ∧ (convert 23 9 (.slice ra 2 rc)).run Tryz.prog w' = .ok (.string ⟨#[0, 255]⟩) w' ∧ Sat w (pt b4 wO :: row 5 1 (.slice ra 2 rc) 2 (u8s [0, 255]) :: [pt b1 (.cells #[.int .u8 0, .int .u8 255] 5)]) w')
    (first | exact h0 | exact hS _ ‹_›)
    (first
      | (go_at_call 19; refine (psetupc (‹_ ∧ _ ∧ _ ∧ _ ∧ _ ∧ _ ∧ _ ∧ _ ∧ _ ∧ _ ∧ Sat w _ _›).2.2.2.2.2.2.2.2.2.2).mono ?_; rintro e w5 ⟨rfl, h5⟩))
  all_goals go_wp2_with fail
  all_goals go_ret
  all_goals exact ⟨rfl, (‹_ ∧ _ ∧ _ ∧ _ ∧ _ ∧ _ ∧ _ ∧ _ ∧ _ ∧ _ ∧ Sat w _ _›).2.2.2.2.2.2.2.2.2.2.below⟩
end
end Go.Proofs.YtcjindifdghpgaaGreatDoor
