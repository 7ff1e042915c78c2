/-
  Script: ScriptKnown's walk.
-/
import Derived.Test.YtcjindifdghpgaaGreatDoorKnFH
namespace Go.Proofs.YtcjindifdghpgaaGreatDoor
set_option linter.all false
open Go.RowKit
section
variable {B w : World} {L : List HP}
set_option maxHeartbeats 8000000 in
set_option maxRecDepth 100000 in
theorem known33 (hE : Env w) (hF : EnvF w) (hg : w.cell? ⟨0, 0, none⟩ = some (.iface 114 (.agg #[.pointer (some ⟨12, 33, none⟩)]))) :
    Calls Tryz.prog 5 #[] w fun y w' => y = .returned (.bool true) ∧ Below w.heap.size w w' := by
  have h0 := Sat.start w
  have hp1 := popTextB hF 1 [114] [120] [118] false [] (by decide) h0
  have hp2 := fun (w' : World) (h' : Sat w [] w') => popTextB hF 4 [114] [120] [] true [118] (by decide) h'
  have hp3 := fun (w' : World) (h' : Sat w [] w') => popTextB hF 5 [] [120] [] false [] (by decide) h'
  have hp4 := fun (w' : World) (h' : Sat w [] w') => pevent hE hF 0 1 true 2 ⟨#[114]⟩ ⟨#[120]⟩ eB false eB 0 false eB eB 0 h'
  have hp5 := fun (w' : World) (h' : Sat w [] w') => pevent hE hF 0 1 false 0 eB eB eB false eB 0 true eB ⟨#[118]⟩ 1 h'
  rw [kt1] at hp1
  rw [kt2] at hp2
  rw [kt3] at hp3
  rw [kt4] at hp4
  rw [kt5] at hp5
  unfold evV at hp4 hp5
  dsimp only at hp4 hp5
  go_enter Tryz.func5, Tryz.ntmps5
  go_wp2_with (first
    | (go_at_call_of 10 (Value.int .i64 1); refine hp1.mono ?_; rintro y w2 ⟨rfl, h2⟩)
    | (go_at_call_of 10 (Value.int .i64 4); refine (hp2 _ h2).mono ?_; rintro y w3 ⟨rfl, h3⟩)
    | (go_at_call_of 10 (Value.int .i64 5); refine (hp3 _ h3).mono ?_; rintro y w4 ⟨rfl, h4⟩)
    | (go_at_call_of 14 (Value.bool true); refine (hp5 _ h5).mono ?_; rintro y w6 ⟨rfl, h6⟩)
    | (go_at_call 14; refine (hp4 _ h4).mono ?_; rintro y w5 ⟨rfl, h5⟩))
  have hrow : Sat w (row 9 1 (.slice (some ⟨w6.heap.size, 0, none⟩) 15 15) 15 (strL badOps) :: []) (w6.alloc (.cells (strL badOps).toArray 9)) :=
    (h6.alloc' (.cells (strL badOps).toArray 9) (n := w6.heap.size) rfl).pt_row 15 15 0 (strL badOps) rfl (strL_one _) (Nat.le_refl _) (by unfold maxLen; omega) (by simp [strL, badOps]) (by simp [strL, badOps])
  clear hp1 hp2 hp3 hp4 hp5 h2 h3 h4 h5
  go_loopg [104] 16 (fun gh v104 wr => ∃ i : Nat, i ≤ 15 ∧ 15 ≤ i + gh ∧ v104 = .int .i64 i ∧ Sat w (row 9 1 (.slice (some ⟨w6.heap.size, 0, none⟩) 15 15) 15 (strL badOps) :: []) wr)
  case atStart => exact ⟨0, by omega, by omega, rfl, hrow⟩
  case round =>
    obtain ⟨i, hi, hg1, rfl, hs1⟩ := hrel
    clear hrow
    by_cases hlt : i < 15
    · have hlti : (i : Int) < 15 := by omega
      obtain ⟨p, hp⟩ : ∃ p, badOps[i]? = some p := ⟨_, List.getElem?_eq_getElem (by show i < 15; exact hlt)⟩
      have hmem := List.mem_of_getElem? hp
      have hbad := bad_read p hmem
      have hpl := bad_len p hmem
      obtain ⟨sp, hsp⟩ : ∃ sp : ByteArray, sp = ⟨p.toArray⟩ := ⟨_, rfl⟩
      have c1 : wr.cell? ⟨w6.heap.size, 0 + i, none⟩ = some (.string sp) := row_cell_at hs1 i (.string sp) (by rw [hsp]; simp [strL, hp])
      rw [Nat.zero_add] at c1
      have hO := pOp hE hF sp (by rw [hsp]; show p.length ≤ _; omega) hs1
      have hrd : readW (splL 32 sp.data.toList) = none := by rw [hsp]; exact hbad
      have Hrd := Lib.hid hrd
      clear hp hmem hbad hpl hsp hrd
      go_wp2_with (first
        | (go_at_call 11; refine hO.mono ?_; rintro y w8 ho; obtain ⟨p8, rfl, h8⟩ := opOut_no Hrd.out ho; clear ho;
            have h9 := h8.alloc' (.cells zO 42) (n := w8.heap.size) rfl;
            have p9 := h9.pt_cell; have z0 := p9 0; have z1 := p9 1; have z2 := p9 2; have z3 := p9 3; have z4 := p9 4; have z5 := p9 5;
            simp only [List.getElem?_toArray, List.getElem?_cons_zero, List.getElem?_cons_succ] at z0 z1 z2 z3 z4 z5; clear p9;
            have his := pis 15 0 (.inl rfl) p8 h9.swap)
        | (go_at_call 18; refine his.mono ?_; rintro y w' ⟨rfl, rfl⟩))
      go_roundg (gk - 1)
      case measure => omega
      case rel => exact ⟨i + 1, by omega, by omega, by go_num, h9.drop.drop⟩
    · have hlti : ¬ (i : Int) < 15 := by omega
      have hs2 := hs1.drop
      clear hs1
      go_wp2_with fail
      go_loopg [16, 17] 513 (fun gh v16 v17 wx => ∃ (k : Nat) (t : ByteArray), k ≤ 512 ∧ 512 ≤ k + gh ∧ v16 = .string t ∧ v17 = .int .i64 k ∧ wx = wr ∧ Hid (t.data.toList = fullL k))
      case atStart => exact ⟨0, _, by omega, by omega, rfl, rfl, rfl, Lib.hid rfl⟩
      case round =>
        obtain ⟨k, t, hk, hg2, rfl, rfl, rfl, Ht⟩ := hrel
        have hts : t.size = 65 * k := by rw [← slenB, Ht.out, full_len]
        by_cases hkl : k < 512
        · have hkli : (k : Int) < 512 := by omega
          go_wp2_with fail
          go_roundg (gk - 1)
          case measure => omega
          case rel =>
            refine ⟨k + 1, _, by omega, by omega, rfl, by go_num, rfl, Lib.hid ?_⟩
            rw [ba_cat, Ht.out, fullL]; rfl
        · obtain rfl : k = 512 := by omega
          have hkli : ¬ (((512 : Nat) : Int) < 512) := by omega
          have hfull := Ht.out
          obtain ⟨fs, hfs⟩ : ∃ fs : ByteArray, kHB ++ t = fs := ⟨_, rfl⟩
          have hfd : fs.data.toList = kHead ++ 10 :: fullL 512 := by rw [← hfs, ba_cat, hfull]; rfl
          have hfz : fs.size ≤ 40000 := by rw [← hfs, ByteArray.size_append]; have : kHB.size = 27 := rfl; omega
          have hP1 : parseL fs.data.toList = .ok (kS, (zs 512).flatten) := by rw [hfd]; exact parse_full
          have hP8 : parseL (kHB ++ t ++ ⟨#[48, 48, 10]⟩).data.toList = .error (3, 513) := by rw [hfs, ba_cat, hfd]; exact parse_long
          have HP1 := Lib.hid hP1
          have HP8 := Lib.hid hP8
          have Hfs := Lib.hid hfs
          have hts2 : kHB.size = 27 := rfl
          have heq := neq_wS
          clear hfull hfd hP1 hP8 hfs hkl hg2 hkli hlt hlti hg1 hi
          go_wp2_with (go_at_call 7; rw [Hfs.out]; refine (pparse hE hs2 _).mono ?_; rintro y w8 hp; obtain ⟨ra, rc, xs, rfl, h8⟩ := parsed_full HP1.out hp; clear hp)
          have h9 := h8.alloc' wO (n := w8.heap.size) rfl
          generalize w8.alloc wO = w9 at h9 ⊢
          generalize w8.heap.size = b4 at h9 ⊢
          clear h8
          have hS : ∀ w', Sat w (pt b4 wO :: row 5 1 (.slice ra 16384 rc) 16384 xs :: []) w' → (fun w' => w'.cell? ⟨b4, 0, none⟩ = some (.int .i64 3) ∧ w'.cell? ⟨b4, 1, none⟩ = some (.int .i64 1) ∧ w'.cell? ⟨b4, 2, none⟩ = some (.int .i64 4) ∧ w'.cell? ⟨b4, 3, none⟩ = some (.int .i64 1) ∧ w'.cell? ⟨b4, 4, none⟩ = some (.int .i64 2) ∧ w'.cell? ⟨b4, 5, none⟩ = some (.int .i64 1) ∧ w'.cell? ⟨b4, 6, none⟩ = some (.int .i64 4096) ∧ w'.cell? ⟨b4, 7, none⟩ = some (.int .i64 1) ∧ w'.cell? ⟨b4, 8, none⟩ = some (.int .i64 4) ∧ Sat w (pt b4 wO :: row 5 1 (.slice ra 16384 rc) 16384 xs :: []) w') w' := fun w' h' => ⟨h'.pt_cell 0, h'.pt_cell 1, h'.pt_cell 2, h'.pt_cell 3, h'.pt_cell 4, h'.pt_cell 5, h'.pt_cell 6, h'.pt_cell 7, h'.pt_cell 8, h'⟩
          have h0 := hS _ h9.drew
          go_region_held3 (fun w' => w'.cell? ⟨b4, 0, none⟩ = some (.int .i64 3) ∧ w'.cell? ⟨b4, 1, none⟩ = some (.int .i64 1) ∧ w'.cell? ⟨b4, 2, none⟩ = some (.int .i64 4) ∧ w'.cell? ⟨b4, 3, none⟩ = some (.int .i64 1) ∧ w'.cell? ⟨b4, 4, none⟩ = some (.int .i64 2) ∧ w'.cell? ⟨b4, 5, none⟩ = some (.int .i64 1) ∧ w'.cell? ⟨b4, 6, none⟩ = some (.int .i64 4096) ∧ w'.cell? ⟨b4, 7, none⟩ = some (.int .i64 1) ∧ w'.cell? ⟨b4, 8, none⟩ = some (.int .i64 4) ∧ Sat w (pt b4 wO :: row 5 1 (.slice ra 16384 rc) 16384 xs :: []) w')
            (first | exact h0 | exact hS _ ‹_›)
            (first
              | (go_at_call 19; refine (psetupc (‹_ ∧ _ ∧ _ ∧ _ ∧ _ ∧ _ ∧ _ ∧ _ ∧ _ ∧ Sat w _ _›).2.2.2.2.2.2.2.2.2).mono ?_; rintro e w10 ⟨rfl, h10⟩))
          obtain ⟨zz, hzz⟩ : ∃ zz, List.replicate 65537 (0 : UInt8) = zz := ⟨_, rfl⟩
          have hzl : zz.length = 65537 := by rw [← hzz]; exact List.length_replicate
          have HP9 : Hid (parseL (⟨zz.toArray⟩ : ByteArray).data.toList = .error (3, 0)) := Lib.hid (show parseL zz = .error (3, 0) by rw [← hzz]; exact parse_big)
          have Hz := Lib.hid hzz
          have b1m : 1 * 65537 ≤ 281474976710656 := by omega
          have b2m : 65537 ≤ maxLen := by unfold maxLen; omega
          clear hzz h0 hS
          have hw10 := h10.drop.drop
          clear h9 h10
          go_wp2_with (first
            | (at_make; refine wpList_make_row rfl u8_elem _ _ rfl 65537 65537 rfl rfl hw10 (Nat.le_refl _) b1m b2m ?_; intro a1 w11 h11; rw [zeros8, Hz.out] at h11; go_frame)
            | ((with_reducible refine wpList_bytes_string rfl (.tmp 161) rfl Tryz.underlying23 Tryz.underlying5 Tryz.underlying9 (.slice a1 65537 65537) 65537 zz rfl h11.row_reads hzl ?_); go_frame))
          have hA5 := (h11.alloc' (.cells #[.string (⟨#[]⟩ : ByteArray), .string (⟨#[115, 101, 116, 117, 112, 32, 51, 10]⟩ : ByteArray), .string (kHB ++ ⟨#[48, 48, 102, 102]⟩), .string (kHB ++ ⟨#[48, 48, 102, 102, 10, 48, 10]⟩), .string (kHB ++ ⟨#[48, 48, 102, 102, 10, 48, 48, 10]⟩), .string (kHB ++ ⟨#[10]⟩), .string (⟨#[115, 101, 116, 117, 112, 32, 50, 32, 49, 32, 52, 32, 49, 32, 50, 32, 49, 32, 52, 48, 57, 54, 32, 49, 32, 52, 10]⟩ : ByteArray), .string (⟨#[115, 101, 116, 117, 112, 32, 48, 51, 32, 49, 32, 52, 32, 49, 32, 50, 32, 49, 32, 52, 48, 57, 54, 32, 49, 32, 52, 10]⟩ : ByteArray), .string (kHB ++ t ++ ⟨#[48, 48, 10]⟩), .string (⟨zz.toArray⟩ : ByteArray)] 9) (n := w11.heap.size) rfl).swap.drop
          obtain ⟨b5, hb5⟩ : ∃ b5, w11.heap.size = b5 := ⟨_, rfl⟩
          rw [hb5] at hA5 ⊢
          go_loopg [165] 11 (fun gh v165 wy => ∃ i : Nat, i ≤ 10 ∧ 10 ≤ i + gh ∧ v165 = .int .i64 i ∧ Sat w (pt b5 (.cells #[.string (⟨#[]⟩ : ByteArray), .string (⟨#[115, 101, 116, 117, 112, 32, 51, 10]⟩ : ByteArray), .string (kHB ++ ⟨#[48, 48, 102, 102]⟩), .string (kHB ++ ⟨#[48, 48, 102, 102, 10, 48, 10]⟩), .string (kHB ++ ⟨#[48, 48, 102, 102, 10, 48, 48, 10]⟩), .string (kHB ++ ⟨#[10]⟩), .string (⟨#[115, 101, 116, 117, 112, 32, 50, 32, 49, 32, 52, 32, 49, 32, 50, 32, 49, 32, 52, 48, 57, 54, 32, 49, 32, 52, 10]⟩ : ByteArray), .string (⟨#[115, 101, 116, 117, 112, 32, 48, 51, 32, 49, 32, 52, 32, 49, 32, 50, 32, 49, 32, 52, 48, 57, 54, 32, 49, 32, 52, 10]⟩ : ByteArray), .string (kHB ++ t ++ ⟨#[48, 48, 10]⟩), .string (⟨zz.toArray⟩ : ByteArray)] 9) :: []) wy)
          case atStart => exact ⟨0, by omega, by omega, rfl, hA5⟩
          case round =>
            obtain ⟨i, hi, hg1, rfl, hs3⟩ := hrel
            clear hA5 h11
            have hcase : i = 10 ∨ i = 0 ∨ i = 1 ∨ i = 2 ∨ i = 3 ∨ i = 4 ∨ i = 5 ∨ i = 6 ∨ i = 7 ∨ i = 8 ∨ i = 9 := by omega
            rcases hcase with rfl | rfl | rfl | rfl | rfl | rfl | rfl | rfl | rfl | rfl | rfl
            · have hs4 := hs3.drop
              clear hs3
              go_wp2_with fail
              have hA6 := hs4.alloc' (.cells #[.int .i64 0, .int .u64 0, .bool false, .int .i64 0, .string ⟨#[]⟩, .string ⟨#[]⟩, .string ⟨#[]⟩, .bool false, .string ⟨#[]⟩, .int .i64 0, .bool false, .string ⟨#[]⟩, .string ⟨#[]⟩, .int .u64 0, .int .i64 4, .int .u64 1, .bool false, .int .i64 0, .string ⟨#[]⟩, .string ⟨#[]⟩, .string ⟨#[]⟩, .bool false, .string ⟨#[]⟩, .int .i64 0, .bool false, .string ⟨#[]⟩, .string ⟨#[]⟩, .int .u64 0, .int .i64 0, .int .u64 1099511627777, .bool false, .int .i64 0, .string ⟨#[]⟩, .string ⟨#[]⟩, .string ⟨#[]⟩, .bool false, .string ⟨#[]⟩, .int .i64 0, .bool false, .string ⟨#[]⟩, .string ⟨#[]⟩, .int .u64 0, .int .i64 0, .int .u64 1, .bool true, .int .i64 0, .string ⟨#[]⟩, .string ⟨#[]⟩, .string ⟨#[]⟩, .bool false, .string ⟨#[]⟩, .int .i64 0, .bool false, .string ⟨#[]⟩, .string ⟨#[]⟩, .int .u64 0, .int .i64 0, .int .u64 1, .bool false, .int .i64 0, .string ⟨#[]⟩, .string ⟨#[]⟩, .string ⟨#[]⟩, .bool false, .string ⟨#[]⟩, .int .i64 16, .bool false, .string ⟨#[]⟩, .string ⟨#[]⟩, .int .u64 0] 53) (n := wr.heap.size) rfl
              obtain ⟨b6, hb6⟩ : ∃ b6, wr.heap.size = b6 := ⟨_, rfl⟩
              rw [hb6] at hA6 ⊢
              go_loopg [30] 6 (fun gh v30 wz => ∃ i : Nat, i ≤ 5 ∧ 5 ≤ i + gh ∧ v30 = .int .i64 i ∧ Sat w (pt b6 (.cells #[.int .i64 0, .int .u64 0, .bool false, .int .i64 0, .string ⟨#[]⟩, .string ⟨#[]⟩, .string ⟨#[]⟩, .bool false, .string ⟨#[]⟩, .int .i64 0, .bool false, .string ⟨#[]⟩, .string ⟨#[]⟩, .int .u64 0, .int .i64 4, .int .u64 1, .bool false, .int .i64 0, .string ⟨#[]⟩, .string ⟨#[]⟩, .string ⟨#[]⟩, .bool false, .string ⟨#[]⟩, .int .i64 0, .bool false, .string ⟨#[]⟩, .string ⟨#[]⟩, .int .u64 0, .int .i64 0, .int .u64 1099511627777, .bool false, .int .i64 0, .string ⟨#[]⟩, .string ⟨#[]⟩, .string ⟨#[]⟩, .bool false, .string ⟨#[]⟩, .int .i64 0, .bool false, .string ⟨#[]⟩, .string ⟨#[]⟩, .int .u64 0, .int .i64 0, .int .u64 1, .bool true, .int .i64 0, .string ⟨#[]⟩, .string ⟨#[]⟩, .string ⟨#[]⟩, .bool false, .string ⟨#[]⟩, .int .i64 0, .bool false, .string ⟨#[]⟩, .string ⟨#[]⟩, .int .u64 0, .int .i64 0, .int .u64 1, .bool false, .int .i64 0, .string ⟨#[]⟩, .string ⟨#[]⟩, .string ⟨#[]⟩, .bool false, .string ⟨#[]⟩, .int .i64 16, .bool false, .string ⟨#[]⟩, .string ⟨#[]⟩, .int .u64 0] 53) :: []) wz)
              case atStart => exact ⟨0, by omega, by omega, rfl, hA6⟩
              case round =>
                obtain ⟨i, hi, hg1, rfl, hs5⟩ := hrel
                clear hA6
                have hcase : i = 5 ∨ i = 0 ∨ i = 1 ∨ i = 2 ∨ i = 3 ∨ i = 4 := by omega
                rcases hcase with rfl | rfl | rfl | rfl | rfl | rfl
                · have hs7 := hs5.drop
                  clear hs5
                  go_wp2_with fail
                  go_loopg [33] 19 (fun gh v33 wv => ∃ i : Nat, i ≤ 18 ∧ 18 ≤ i + gh ∧ v33 = .int .i64 i ∧ Sat w [] wv)
                  case atStart => exact ⟨0, by omega, by omega, rfl, hs7⟩
                  case round =>
                  obtain ⟨i, hi, hg1, rfl, hs6⟩ := hrel
                  have hcase : i = 18 ∨ i = 0 ∨ i = 1 ∨ i = 2 ∨ i = 3 ∨ i = 4 ∨ i = 5 ∨ i = 6 ∨ i = 7 ∨ i = 8 ∨ i = 9 ∨ i = 10 ∨ i = 11 ∨ i = 12 ∨ i = 13 ∨ i = 14 ∨ i = 15 ∨ i = 16 ∨ i = 17 := by omega
                  rcases hcase with rfl | rfl | rfl | rfl | rfl | rfl | rfl | rfl | rfl | rfl | rfl | rfl | rfl | rfl | rfl | rfl | rfl | rfl | rfl
                  · obtain ⟨mc, hmk⟩ := made16385
                    go_wp2_with (go_at_call 6; refine (pprint_bad _ _ _ _ _ _ _ _ _ _ (by decide)).mono ?_; rintro y w15 ⟨rfl, hb15⟩; have h15 := hs6.of_below hb15)
                    have hd15 := h15.drew
                    go_region_with (first
                      | (go_at_call 19; first | (refine (psetupc hd15).mono ?_; rintro e w16 ⟨rfl, h16⟩) | (refine (psetupc (Sat.alloc hd15 _)).mono ?_; rintro e w16 ⟨rfl, h16⟩))
                      | (go_at_call 6; refine (pprint_long 3 1 4 1 2 1 4096 1 4 _ 16385 16385 (by decide) (by omega)).mono ?_; rintro y w18 ⟨rfl, hb18⟩; first | have h18 := h16.of_below hb18 | have h18 := (Sat.alloc h16 _).of_below hb18))
                    all_goals
                      go_wp2_with (first
                        | (go_at_call 10; refine (popText_z hF h18).mono ?_; rintro y w19 ⟨rfl, h19⟩)
                        | (go_at_call 12; refine (pworks (hE.at h19)).mono ?_; rintro y w20 ⟨rfl, hb20⟩; have h20 := h19.of_below hb20))
                      go_ret
                      exact ⟨rfl, h20.below⟩
                  · refine roundH0 hs6 ?_
                    intro _ _ _ _ _ _ _ _ _ _ _ _ _ _ _ _ _ _ _ _ _ _ _ _ _ _ _ _ _ _ _ _ _ _ _ _ _ _ _ _ w12 h12
                    go_step
                    go_roundg (gk - 1)
                    case measure => omega
                    case rel => exact ⟨1, by omega, by omega, by go_num, h12⟩
                  · refine roundH1 hs6 ?_
                    intro _ _ _ _ _ _ _ _ _ _ _ _ _ _ _ _ _ _ _ _ _ _ _ _ _ _ _ _ _ _ _ _ _ _ _ _ _ _ _ _ w12 h12
                    go_step
                    go_roundg (gk - 1)
                    case measure => omega
                    case rel => exact ⟨2, by omega, by omega, by go_num, h12⟩
                  · refine roundH2 hs6 ?_
                    intro _ _ _ _ _ _ _ _ _ _ _ _ _ _ _ _ _ _ _ _ _ _ _ _ _ _ _ _ _ _ _ _ _ _ _ _ _ _ _ _ w12 h12
                    go_step
                    go_roundg (gk - 1)
                    case measure => omega
                    case rel => exact ⟨3, by omega, by omega, by go_num, h12⟩
                  · refine roundH3 hs6 ?_
                    intro _ _ _ _ _ _ _ _ _ _ _ _ _ _ _ _ _ _ _ _ _ _ _ _ _ _ _ _ _ _ _ _ _ _ _ _ _ _ _ _ w12 h12
                    go_step
                    go_roundg (gk - 1)
                    case measure => omega
                    case rel => exact ⟨4, by omega, by omega, by go_num, h12⟩
                  · refine roundH4 hs6 ?_
                    intro _ _ _ _ _ _ _ _ _ _ _ _ _ _ _ _ _ _ _ _ _ _ _ _ _ _ _ _ _ _ _ _ _ _ _ _ _ _ _ _ w12 h12
                    go_step
                    go_roundg (gk - 1)
                    case measure => omega
                    case rel => exact ⟨5, by omega, by omega, by go_num, h12⟩
                  · refine roundH5 hs6 ?_
                    intro _ _ _ _ _ _ _ _ _ _ _ _ _ _ _ _ _ _ _ _ _ _ _ _ _ _ _ _ _ _ _ _ _ _ _ _ _ _ _ _ w12 h12
                    go_step
                    go_roundg (gk - 1)
                    case measure => omega
                    case rel => exact ⟨6, by omega, by omega, by go_num, h12⟩
                  · refine roundH6 hs6 ?_
                    intro _ _ _ _ _ _ _ _ _ _ _ _ _ _ _ _ _ _ _ _ _ _ _ _ _ _ _ _ _ _ _ _ _ _ _ _ _ _ _ _ w12 h12
                    go_step
                    go_roundg (gk - 1)
                    case measure => omega
                    case rel => exact ⟨7, by omega, by omega, by go_num, h12⟩
                  · refine roundH7 hs6 ?_
                    intro _ _ _ _ _ _ _ _ _ _ _ _ _ _ _ _ _ _ _ _ _ _ _ _ _ _ _ _ _ _ _ _ _ _ _ _ _ _ _ _ w12 h12
                    go_step
                    go_roundg (gk - 1)
                    case measure => omega
                    case rel => exact ⟨8, by omega, by omega, by go_num, h12⟩
                  · refine roundH8 hs6 ?_
                    intro _ _ _ _ _ _ _ _ _ _ _ _ _ _ _ _ _ _ _ _ _ _ _ _ _ _ _ _ _ _ _ _ _ _ _ _ _ _ _ _ w12 h12
                    go_step
                    go_roundg (gk - 1)
                    case measure => omega
                    case rel => exact ⟨9, by omega, by omega, by go_num, h12⟩
                  · refine roundH9 hs6 ?_
                    intro _ _ _ _ _ _ _ _ _ _ _ _ _ _ _ _ _ _ _ _ _ _ _ _ _ _ _ _ _ _ _ _ _ _ _ _ _ _ _ _ w12 h12
                    go_step
                    go_roundg (gk - 1)
                    case measure => omega
                    case rel => exact ⟨10, by omega, by omega, by go_num, h12⟩
                  · refine roundH10 hs6 ?_
                    intro _ _ _ _ _ _ _ _ _ _ _ _ _ _ _ _ _ _ _ _ _ _ _ _ _ _ _ _ _ _ _ _ _ _ _ _ _ _ _ _ w12 h12
                    go_step
                    go_roundg (gk - 1)
                    case measure => omega
                    case rel => exact ⟨11, by omega, by omega, by go_num, h12⟩
                  · refine roundH11 hs6 ?_
                    intro _ _ _ _ _ _ _ _ _ _ _ _ _ _ _ _ _ _ _ _ _ _ _ _ _ _ _ _ _ _ _ _ _ _ _ _ _ _ _ _ w12 h12
                    go_step
                    go_roundg (gk - 1)
                    case measure => omega
                    case rel => exact ⟨12, by omega, by omega, by go_num, h12⟩
                  · refine roundH12 hs6 ?_
                    intro _ _ _ _ _ _ _ _ _ _ _ _ _ _ _ _ _ _ _ _ _ _ _ _ _ _ _ _ _ _ _ _ _ _ _ _ _ _ _ _ w12 h12
                    go_step
                    go_roundg (gk - 1)
                    case measure => omega
                    case rel => exact ⟨13, by omega, by omega, by go_num, h12⟩
                  · refine roundH13 hs6 ?_
                    intro _ _ _ _ _ _ _ _ _ _ _ _ _ _ _ _ _ _ _ _ _ _ _ _ _ _ _ _ _ _ _ _ _ _ _ _ _ _ _ _ w12 h12
                    go_step
                    go_roundg (gk - 1)
                    case measure => omega
                    case rel => exact ⟨14, by omega, by omega, by go_num, h12⟩
                  · refine roundH14 hs6 ?_
                    intro _ _ _ _ _ _ _ _ _ _ _ _ _ _ _ _ _ _ _ _ _ _ _ _ _ _ _ _ _ _ _ _ _ _ _ _ _ _ _ _ w12 h12
                    go_step
                    go_roundg (gk - 1)
                    case measure => omega
                    case rel => exact ⟨15, by omega, by omega, by go_num, h12⟩
                  · refine roundH15 hs6 ?_
                    intro _ _ _ _ _ _ _ _ _ _ _ _ _ _ _ _ _ _ _ _ _ _ _ _ _ _ _ _ _ _ _ _ _ _ _ _ _ _ _ _ w12 h12
                    go_step
                    go_roundg (gk - 1)
                    case measure => omega
                    case rel => exact ⟨16, by omega, by omega, by go_num, h12⟩
                  · refine roundH16 hs6 ?_
                    intro _ _ _ _ _ _ _ _ _ _ _ _ _ _ _ _ _ _ _ _ _ _ _ _ _ _ _ _ _ _ _ _ _ _ _ _ _ _ _ _ w12 h12
                    go_step
                    go_roundg (gk - 1)
                    case measure => omega
                    case rel => exact ⟨17, by omega, by omega, by go_num, h12⟩
                  · refine roundH17 hs6 ?_
                    intro _ _ _ _ _ _ _ _ _ _ _ _ _ _ _ _ _ _ _ _ _ _ _ _ _ _ _ _ _ _ _ _ _ _ _ _ _ _ _ _ w12 h12
                    go_step
                    go_roundg (gk - 1)
                    case measure => omega
                    case rel => exact ⟨18, by omega, by omega, by go_num, h12⟩
                · have x0 : wr.cell? ⟨b6, 0, none⟩ = some (.int .i64 0) := hs5.pt_cell 0
                  have x1 : wr.cell? ⟨b6, 1, none⟩ = some (.int .u64 0) := hs5.pt_cell 1
                  have x2 : wr.cell? ⟨b6, 2, none⟩ = some (.bool false) := hs5.pt_cell 2
                  have x3 : wr.cell? ⟨b6, 3, none⟩ = some (.int .i64 0) := hs5.pt_cell 3
                  have x4 : wr.cell? ⟨b6, 4, none⟩ = some (.string ⟨#[]⟩) := hs5.pt_cell 4
                  have x5 : wr.cell? ⟨b6, 5, none⟩ = some (.string ⟨#[]⟩) := hs5.pt_cell 5
                  have x6 : wr.cell? ⟨b6, 6, none⟩ = some (.string ⟨#[]⟩) := hs5.pt_cell 6
                  have x7 : wr.cell? ⟨b6, 7, none⟩ = some (.bool false) := hs5.pt_cell 7
                  have x8 : wr.cell? ⟨b6, 8, none⟩ = some (.string ⟨#[]⟩) := hs5.pt_cell 8
                  have x9 : wr.cell? ⟨b6, 9, none⟩ = some (.int .i64 0) := hs5.pt_cell 9
                  have x10 : wr.cell? ⟨b6, 10, none⟩ = some (.bool false) := hs5.pt_cell 10
                  have x11 : wr.cell? ⟨b6, 11, none⟩ = some (.string ⟨#[]⟩) := hs5.pt_cell 11
                  have x12 : wr.cell? ⟨b6, 12, none⟩ = some (.string ⟨#[]⟩) := hs5.pt_cell 12
                  have x13 : wr.cell? ⟨b6, 13, none⟩ = some (.int .u64 0) := hs5.pt_cell 13
                  refine roundF0 hE hF hs5 x0 x1 x2 x3 x4 x5 x6 x7 x8 x9 x10 x11 x12 x13 ?_
                  intro _ _ _ _ _ _ _ _ _ _ _ _ _ _ _ _ _ _ _ w12 h12
                  go_step
                  go_roundg (gk - 1)
                  case measure => omega
                  case rel => exact ⟨1, by omega, by omega, by go_num, h12⟩
                · have x0 : wr.cell? ⟨b6, 14, none⟩ = some (.int .i64 4) := hs5.pt_cell 14
                  have x1 : wr.cell? ⟨b6, 15, none⟩ = some (.int .u64 1) := hs5.pt_cell 15
                  have x2 : wr.cell? ⟨b6, 16, none⟩ = some (.bool false) := hs5.pt_cell 16
                  have x3 : wr.cell? ⟨b6, 17, none⟩ = some (.int .i64 0) := hs5.pt_cell 17
                  have x4 : wr.cell? ⟨b6, 18, none⟩ = some (.string ⟨#[]⟩) := hs5.pt_cell 18
                  have x5 : wr.cell? ⟨b6, 19, none⟩ = some (.string ⟨#[]⟩) := hs5.pt_cell 19
                  have x6 : wr.cell? ⟨b6, 20, none⟩ = some (.string ⟨#[]⟩) := hs5.pt_cell 20
                  have x7 : wr.cell? ⟨b6, 21, none⟩ = some (.bool false) := hs5.pt_cell 21
                  have x8 : wr.cell? ⟨b6, 22, none⟩ = some (.string ⟨#[]⟩) := hs5.pt_cell 22
                  have x9 : wr.cell? ⟨b6, 23, none⟩ = some (.int .i64 0) := hs5.pt_cell 23
                  have x10 : wr.cell? ⟨b6, 24, none⟩ = some (.bool false) := hs5.pt_cell 24
                  have x11 : wr.cell? ⟨b6, 25, none⟩ = some (.string ⟨#[]⟩) := hs5.pt_cell 25
                  have x12 : wr.cell? ⟨b6, 26, none⟩ = some (.string ⟨#[]⟩) := hs5.pt_cell 26
                  have x13 : wr.cell? ⟨b6, 27, none⟩ = some (.int .u64 0) := hs5.pt_cell 27
                  refine roundF1 hE hF hs5 x0 x1 x2 x3 x4 x5 x6 x7 x8 x9 x10 x11 x12 x13 ?_
                  intro _ _ _ _ _ _ _ _ _ _ _ _ _ _ _ _ _ _ _ w12 h12
                  go_step
                  go_roundg (gk - 1)
                  case measure => omega
                  case rel => exact ⟨2, by omega, by omega, by go_num, h12⟩
                · have x0 : wr.cell? ⟨b6, 28, none⟩ = some (.int .i64 0) := hs5.pt_cell 28
                  have x1 : wr.cell? ⟨b6, 29, none⟩ = some (.int .u64 1099511627777) := hs5.pt_cell 29
                  have x2 : wr.cell? ⟨b6, 30, none⟩ = some (.bool false) := hs5.pt_cell 30
                  have x3 : wr.cell? ⟨b6, 31, none⟩ = some (.int .i64 0) := hs5.pt_cell 31
                  have x4 : wr.cell? ⟨b6, 32, none⟩ = some (.string ⟨#[]⟩) := hs5.pt_cell 32
                  have x5 : wr.cell? ⟨b6, 33, none⟩ = some (.string ⟨#[]⟩) := hs5.pt_cell 33
                  have x6 : wr.cell? ⟨b6, 34, none⟩ = some (.string ⟨#[]⟩) := hs5.pt_cell 34
                  have x7 : wr.cell? ⟨b6, 35, none⟩ = some (.bool false) := hs5.pt_cell 35
                  have x8 : wr.cell? ⟨b6, 36, none⟩ = some (.string ⟨#[]⟩) := hs5.pt_cell 36
                  have x9 : wr.cell? ⟨b6, 37, none⟩ = some (.int .i64 0) := hs5.pt_cell 37
                  have x10 : wr.cell? ⟨b6, 38, none⟩ = some (.bool false) := hs5.pt_cell 38
                  have x11 : wr.cell? ⟨b6, 39, none⟩ = some (.string ⟨#[]⟩) := hs5.pt_cell 39
                  have x12 : wr.cell? ⟨b6, 40, none⟩ = some (.string ⟨#[]⟩) := hs5.pt_cell 40
                  have x13 : wr.cell? ⟨b6, 41, none⟩ = some (.int .u64 0) := hs5.pt_cell 41
                  refine roundF2 hE hF hs5 x0 x1 x2 x3 x4 x5 x6 x7 x8 x9 x10 x11 x12 x13 ?_
                  intro _ _ _ _ _ _ _ _ _ _ _ _ _ _ _ _ _ _ _ w12 h12
                  go_step
                  go_roundg (gk - 1)
                  case measure => omega
                  case rel => exact ⟨3, by omega, by omega, by go_num, h12⟩
                · have x0 : wr.cell? ⟨b6, 42, none⟩ = some (.int .i64 0) := hs5.pt_cell 42
                  have x1 : wr.cell? ⟨b6, 43, none⟩ = some (.int .u64 1) := hs5.pt_cell 43
                  have x2 : wr.cell? ⟨b6, 44, none⟩ = some (.bool true) := hs5.pt_cell 44
                  have x3 : wr.cell? ⟨b6, 45, none⟩ = some (.int .i64 0) := hs5.pt_cell 45
                  have x4 : wr.cell? ⟨b6, 46, none⟩ = some (.string ⟨#[]⟩) := hs5.pt_cell 46
                  have x5 : wr.cell? ⟨b6, 47, none⟩ = some (.string ⟨#[]⟩) := hs5.pt_cell 47
                  have x6 : wr.cell? ⟨b6, 48, none⟩ = some (.string ⟨#[]⟩) := hs5.pt_cell 48
                  have x7 : wr.cell? ⟨b6, 49, none⟩ = some (.bool false) := hs5.pt_cell 49
                  have x8 : wr.cell? ⟨b6, 50, none⟩ = some (.string ⟨#[]⟩) := hs5.pt_cell 50
                  have x9 : wr.cell? ⟨b6, 51, none⟩ = some (.int .i64 0) := hs5.pt_cell 51
                  have x10 : wr.cell? ⟨b6, 52, none⟩ = some (.bool false) := hs5.pt_cell 52
                  have x11 : wr.cell? ⟨b6, 53, none⟩ = some (.string ⟨#[]⟩) := hs5.pt_cell 53
                  have x12 : wr.cell? ⟨b6, 54, none⟩ = some (.string ⟨#[]⟩) := hs5.pt_cell 54
                  have x13 : wr.cell? ⟨b6, 55, none⟩ = some (.int .u64 0) := hs5.pt_cell 55
                  refine roundF3 hE hF hs5 x0 x1 x2 x3 x4 x5 x6 x7 x8 x9 x10 x11 x12 x13 ?_
                  intro _ _ _ _ _ _ _ _ _ _ _ _ _ _ _ _ _ _ _ w12 h12
                  go_step
                  go_roundg (gk - 1)
                  case measure => omega
                  case rel => exact ⟨4, by omega, by omega, by go_num, h12⟩
                · have x0 : wr.cell? ⟨b6, 56, none⟩ = some (.int .i64 0) := hs5.pt_cell 56
                  have x1 : wr.cell? ⟨b6, 57, none⟩ = some (.int .u64 1) := hs5.pt_cell 57
                  have x2 : wr.cell? ⟨b6, 58, none⟩ = some (.bool false) := hs5.pt_cell 58
                  have x3 : wr.cell? ⟨b6, 59, none⟩ = some (.int .i64 0) := hs5.pt_cell 59
                  have x4 : wr.cell? ⟨b6, 60, none⟩ = some (.string ⟨#[]⟩) := hs5.pt_cell 60
                  have x5 : wr.cell? ⟨b6, 61, none⟩ = some (.string ⟨#[]⟩) := hs5.pt_cell 61
                  have x6 : wr.cell? ⟨b6, 62, none⟩ = some (.string ⟨#[]⟩) := hs5.pt_cell 62
                  have x7 : wr.cell? ⟨b6, 63, none⟩ = some (.bool false) := hs5.pt_cell 63
                  have x8 : wr.cell? ⟨b6, 64, none⟩ = some (.string ⟨#[]⟩) := hs5.pt_cell 64
                  have x9 : wr.cell? ⟨b6, 65, none⟩ = some (.int .i64 16) := hs5.pt_cell 65
                  have x10 : wr.cell? ⟨b6, 66, none⟩ = some (.bool false) := hs5.pt_cell 66
                  have x11 : wr.cell? ⟨b6, 67, none⟩ = some (.string ⟨#[]⟩) := hs5.pt_cell 67
                  have x12 : wr.cell? ⟨b6, 68, none⟩ = some (.string ⟨#[]⟩) := hs5.pt_cell 68
                  have x13 : wr.cell? ⟨b6, 69, none⟩ = some (.int .u64 0) := hs5.pt_cell 69
                  refine roundF4 hE hF hs5 x0 x1 x2 x3 x4 x5 x6 x7 x8 x9 x10 x11 x12 x13 ?_
                  intro _ _ _ _ _ _ _ _ _ _ _ _ _ _ _ _ _ _ _ w12 h12
                  go_step
                  go_roundg (gk - 1)
                  case measure => omega
                  case rel => exact ⟨5, by omega, by omega, by go_num, h12⟩
            · have c1 : wr.cell? ⟨b5, 0, none⟩ = some (.string (⟨#[]⟩ : ByteArray)) := hs3.pt_cell 0
              have HPi := Lib.hid (show parseL (⟨#[]⟩ : ByteArray).data.toList = .error (15, 0) from parse_k0)
              refine roundC0 hE hg hs3 c1 HPi ?_
              intro _ _ _ _ _ _ _ _ _ _ _ _ _ _ _ _ _ _ _ _ _ _ _ _ _ _ _ _ _ _ _ _ _ _ _ _ _ _ _ _ _ _ _ _ _ _ _ _ _ _ w12 h12
              go_step
              go_roundg (gk - 1)
              case measure => omega
              case rel => exact ⟨1, by omega, by omega, by go_num, h12⟩
            · have c1 : wr.cell? ⟨b5, 1, none⟩ = some (.string (⟨#[115, 101, 116, 117, 112, 32, 51, 10]⟩ : ByteArray)) := hs3.pt_cell 1
              have HPi := Lib.hid (show parseL (⟨#[115, 101, 116, 117, 112, 32, 51, 10]⟩ : ByteArray).data.toList = .error (15, 0) from parse_k1)
              refine roundC1 hE hg hs3 c1 HPi ?_
              intro _ _ _ _ _ _ _ _ _ _ _ _ _ _ _ _ _ _ _ _ _ _ _ _ _ _ _ _ _ _ _ _ _ _ _ _ _ _ _ _ _ _ _ _ _ _ _ _ _ _ w12 h12
              go_step
              go_roundg (gk - 1)
              case measure => omega
              case rel => exact ⟨2, by omega, by omega, by go_num, h12⟩
            · have c1 : wr.cell? ⟨b5, 2, none⟩ = some (.string (kHB ++ ⟨#[48, 48, 102, 102]⟩)) := hs3.pt_cell 2
              have HPi := Lib.hid (show parseL (kHB ++ ⟨#[48, 48, 102, 102]⟩).data.toList = .error (15, 1) from by rw [ba_cat]; exact parse_k2)
              refine roundC2 hE hg hs3 c1 HPi ?_
              intro _ _ _ _ _ _ _ _ _ _ _ _ _ _ _ _ _ _ _ _ _ _ _ _ _ _ _ _ _ _ _ _ _ _ _ _ _ _ _ _ _ _ _ _ _ _ _ _ _ _ w12 h12
              go_step
              go_roundg (gk - 1)
              case measure => omega
              case rel => exact ⟨3, by omega, by omega, by go_num, h12⟩
            · have c1 : wr.cell? ⟨b5, 3, none⟩ = some (.string (kHB ++ ⟨#[48, 48, 102, 102, 10, 48, 10]⟩)) := hs3.pt_cell 3
              have HPi := Lib.hid (show parseL (kHB ++ ⟨#[48, 48, 102, 102, 10, 48, 10]⟩).data.toList = .error (15, 2) from by rw [ba_cat]; exact parse_k3)
              refine roundC3 hE hg hs3 c1 HPi ?_
              intro _ _ _ _ _ _ _ _ _ _ _ _ _ _ _ _ _ _ _ _ _ _ _ _ _ _ _ _ _ _ _ _ _ _ _ _ _ _ _ _ _ _ _ _ _ _ _ _ _ _ w12 h12
              go_step
              go_roundg (gk - 1)
              case measure => omega
              case rel => exact ⟨4, by omega, by omega, by go_num, h12⟩
            · have c1 : wr.cell? ⟨b5, 4, none⟩ = some (.string (kHB ++ ⟨#[48, 48, 102, 102, 10, 48, 48, 10]⟩)) := hs3.pt_cell 4
              have HPi := Lib.hid (show parseL (kHB ++ ⟨#[48, 48, 102, 102, 10, 48, 48, 10]⟩).data.toList = .error (15, 2) from by rw [ba_cat]; exact parse_k4)
              refine roundC4 hE hg hs3 c1 HPi ?_
              intro _ _ _ _ _ _ _ _ _ _ _ _ _ _ _ _ _ _ _ _ _ _ _ _ _ _ _ _ _ _ _ _ _ _ _ _ _ _ _ _ _ _ _ _ _ _ _ _ _ _ w12 h12
              go_step
              go_roundg (gk - 1)
              case measure => omega
              case rel => exact ⟨5, by omega, by omega, by go_num, h12⟩
            · have c1 : wr.cell? ⟨b5, 5, none⟩ = some (.string (kHB ++ ⟨#[10]⟩)) := hs3.pt_cell 5
              have HPi := Lib.hid (show parseL (kHB ++ ⟨#[10]⟩).data.toList = .error (15, 1) from by rw [ba_cat]; exact parse_k5)
              refine roundC5 hE hg hs3 c1 HPi ?_
              intro _ _ _ _ _ _ _ _ _ _ _ _ _ _ _ _ _ _ _ _ _ _ _ _ _ _ _ _ _ _ _ _ _ _ _ _ _ _ _ _ _ _ _ _ _ _ _ _ _ _ w12 h12
              go_step
              go_roundg (gk - 1)
              case measure => omega
              case rel => exact ⟨6, by omega, by omega, by go_num, h12⟩
            · have c1 : wr.cell? ⟨b5, 6, none⟩ = some (.string (⟨#[115, 101, 116, 117, 112, 32, 50, 32, 49, 32, 52, 32, 49, 32, 50, 32, 49, 32, 52, 48, 57, 54, 32, 49, 32, 52, 10]⟩ : ByteArray)) := hs3.pt_cell 6
              have HPi := Lib.hid (show parseL (⟨#[115, 101, 116, 117, 112, 32, 50, 32, 49, 32, 52, 32, 49, 32, 50, 32, 49, 32, 52, 48, 57, 54, 32, 49, 32, 52, 10]⟩ : ByteArray).data.toList = .error (15, 0) from parse_k6)
              refine roundC6 hE hg hs3 c1 HPi ?_
              intro _ _ _ _ _ _ _ _ _ _ _ _ _ _ _ _ _ _ _ _ _ _ _ _ _ _ _ _ _ _ _ _ _ _ _ _ _ _ _ _ _ _ _ _ _ _ _ _ _ _ w12 h12
              go_step
              go_roundg (gk - 1)
              case measure => omega
              case rel => exact ⟨7, by omega, by omega, by go_num, h12⟩
            · have c1 : wr.cell? ⟨b5, 7, none⟩ = some (.string (⟨#[115, 101, 116, 117, 112, 32, 48, 51, 32, 49, 32, 52, 32, 49, 32, 50, 32, 49, 32, 52, 48, 57, 54, 32, 49, 32, 52, 10]⟩ : ByteArray)) := hs3.pt_cell 7
              have HPi := Lib.hid (show parseL (⟨#[115, 101, 116, 117, 112, 32, 48, 51, 32, 49, 32, 52, 32, 49, 32, 50, 32, 49, 32, 52, 48, 57, 54, 32, 49, 32, 52, 10]⟩ : ByteArray).data.toList = .error (15, 0) from parse_k7)
              refine roundC7 hE hg hs3 c1 HPi ?_
              intro _ _ _ _ _ _ _ _ _ _ _ _ _ _ _ _ _ _ _ _ _ _ _ _ _ _ _ _ _ _ _ _ _ _ _ _ _ _ _ _ _ _ _ _ _ _ _ _ _ _ w12 h12
              go_step
              go_roundg (gk - 1)
              case measure => omega
              case rel => exact ⟨8, by omega, by omega, by go_num, h12⟩
            · have c1 : wr.cell? ⟨b5, 8, none⟩ = some (.string (kHB ++ t ++ ⟨#[48, 48, 10]⟩)) := hs3.pt_cell 8
              have HPi := Lib.hid (show parseL (kHB ++ t ++ ⟨#[48, 48, 10]⟩).data.toList = .error (3, 513) from HP8.out)
              refine roundC8 hE hg hs3 c1 HPi ?_
              intro _ _ _ _ _ _ _ _ _ _ _ _ _ _ _ _ _ _ _ _ _ _ _ _ _ _ _ _ _ _ _ _ _ _ _ _ _ _ _ _ _ _ _ _ _ _ _ _ _ _ w12 h12
              go_step
              go_roundg (gk - 1)
              case measure => omega
              case rel => exact ⟨9, by omega, by omega, by go_num, h12⟩
            · have c1 : wr.cell? ⟨b5, 9, none⟩ = some (.string (⟨zz.toArray⟩ : ByteArray)) := hs3.pt_cell 9
              have HPi := Lib.hid (show parseL (⟨zz.toArray⟩ : ByteArray).data.toList = .error (3, 0) from HP9.out)
              refine roundC9 hE hg hs3 c1 HPi ?_
              intro _ _ _ _ _ _ _ _ _ _ _ _ _ _ _ _ _ _ _ _ _ _ _ _ _ _ _ _ _ _ _ _ _ _ _ _ _ _ _ _ _ _ _ _ _ _ _ _ _ _ w12 h12
              go_step
              go_roundg (gk - 1)
              case measure => omega
              case rel => exact ⟨10, by omega, by omega, by go_num, h12⟩
end
end Go.Proofs.YtcjindifdghpgaaGreatDoor
