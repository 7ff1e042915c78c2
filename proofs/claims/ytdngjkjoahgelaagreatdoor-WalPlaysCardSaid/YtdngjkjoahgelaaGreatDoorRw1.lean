/-
  WalPlays: the law's walk. (Under way.)
-/
import Derived.Test.YtdngjkjoahgelaaGreatDoorQsC
import Derived.Test.YtdngjkjoahgelaaGreatDoorWcA
import Derived.Deep.DeepCutAuto
import Derived.Deep.CutBlock
namespace Go.Proofs.YtdngjkjoahgelaaGreatDoor
set_option linter.all false
set_option maxRecDepth 100000
set_option maxHeartbeats 32000000
open Go.RowKit
section
theorem walPlays_walk (W : World) (hE : Env W) (hworks : ∀ w', Calls Tryz.prog 16 #[] w' fun y w'' => y = .returned (.bool true) ∧ Below w'.heap.size w' w'')
    (room most : Int) (fs : List Pair) (a : Option Addr) (n0 c0 : Nat) (acts : List ActV) (aa : Option Addr) (na ca : Nat)
    (hr1 : -9223372036854775808 ≤ room) (hr2 : room ≤ 9223372036854775807) (hm2 : most ≤ 9223372036854775807) (hfl : fs.length = n0) (hr : reads W (.slice a n0 c0) n0 (fs.flatMap pairC))
    (hal : acts.length = na) (har : reads W (.slice aa na ca) na (acts.flatMap ActV.cells)) (hok : ∀ x ∈ acts, x.Ok W) :
    Calls Tryz.prog 6 #[.agg #[.int .i64 room, .int .i64 most, .slice a n0 c0], .slice aa na ca] W fun y w' => y = .returned (.bool true) ∧ Below W.heap.size W w' := by
  have h0 := Sat.start W
  obtain ⟨bx, hbx⟩ : ∃ bx, W.heap.size = bx := ⟨_, rfl⟩
  have h1 := h0.alloc' (.cells #[.int .i64 room, .int .i64 most, .slice a n0 c0] 50) (n := bx) hbx.symm
  have cB := fun (w : World) (L : List HP) (h : Sat W L w) => pbegun room most fs a n0 c0 hfl hr1 hr2 hr h
  obtain ⟨rm, hrm⟩ : ∃ rm, room.toNat = rm := ⟨_, rfl⟩
  obtain ⟨D, hD⟩ : ∃ D, begD rm [] (fs.take 6) = D := ⟨_, rfl⟩
  have hrm2 : rm ≤ 9223372036854775807 := by omega
  obtain ⟨k1, k2, k3⟩ := begD_ok rm hrm2 6 (fs.take 6) (by rw [List.length_take]; omega)
  have ktl : (fs.take 6).length ≤ 6 := by rw [List.length_take]; omega
  rw [hrm, hD] at cB
  rw [hD] at k1 k2 k3
  have x0 := h1.pt_cell 0
  have x1 := h1.pt_cell 1
  have x2 := h1.pt_cell 2
  simp only [List.getElem?_toArray, List.getElem?_cons_zero, List.getElem?_cons_succ] at x0 x1 x2
  have Har := Lib.hid har
  have Hal := Lib.hid hal
  have Hok := Lib.hid hok
  have K1 := Lib.hid k1
  have k2' : D.length ≤ 6 := by omega
  have k3' : usedD D ≤ 1800 := by omega
  have K2 := Lib.hid k2'
  have K3 := Lib.hid k3'
  clear hr hfl hal har hok hD hrm k1 k2 k3 ktl k2' k3'
  go_enter Tryz.func6, Tryz.ntmps6
  go_wp2_with fail
  refine (cB _ _ h1).mono ?_
  rintro y w2 ⟨p, v, rfl, h2⟩
  clear x0 x1 x2 h1 cB
  obtain ⟨av, nv, cv, rfl⟩ : ∃ av nv cv, v = .slice av nv cv := by obtain ⟨_, _, e⟩ := h2.swap.q_row.len; exact ⟨_, _, _, e⟩
  obtain ⟨b6, hb6⟩ : ∃ b6, w2.heap.size = b6 := ⟨_, rfl⟩
  have h3 := h2.alloc' (.cells #[.int .i64 (rm : Int), .slice av nv cv] 54) (n := b6) hb6.symm
  have x1 := h3.p3.pt_cell 1
  simp only [List.getElem?_toArray, List.getElem?_cons_zero, List.getElem?_cons_succ] at x1
  go_wp2_with fail
  refine (pwOpenX hE most hm2 (by have := K2.out; omega) (by have := K3.out; omega) h3.swap).mono ?_
  rintro y w3 ⟨q, rfl, h4⟩
  have cQ := fun (w : World) (h : qR w (.slice av nv cv) D) => pqOpenM most hm2 K1.out (by have := K2.out; omega) (by have := K3.out; omega) h
  obtain ⟨c, hc⟩ : ∃ c, (openM rm most D).1 = c := ⟨_, rfl⟩
  have hst := fun h0 => openM_start (most := most) K1.out K2.out (by have := K3.out; omega) h0
  have hsm := openM_small (most := most) K1.out
  have hm1 := openM_most (room := rm) (most := most) (D := D)
  obtain ⟨D1, hD1⟩ : ∃ D1, (openM rm most D).2.1 = D1 := ⟨_, rfl⟩
  obtain ⟨F1, hF1⟩ : ∃ F1, (openM rm most D).2.2 = F1 := ⟨_, rfl⟩
  obtain ⟨vq, hvq⟩ : ∃ vq, opV c q = vq := ⟨_, rfl⟩
  obtain ⟨X, hX⟩ : ∃ X, opH c q p rm most D1 F1 = X := ⟨_, rfl⟩
  rw [hc, hD1, hF1, hX] at h4
  rw [hc, hD1, hF1] at hst
  rw [hc] at hm1
  have Hm1 := Lib.hid hm1
  rw [hD1] at hsm
  rw [hc, hD1] at cQ
  rw [hc, hvq]
  have Hst := Lib.hid hst
  have Hsm := Lib.hid hsm
  have Hvq := Lib.hid hvq
  have HX := Lib.hid hX
  clear hm1 hst hsm hvq hX hc hD1 hF1 x1 h3 h2 hb6
  have x1 := h4.p3.pt_cell 1
  have z0 := h4.swap.pt_cell 0
  have z1 := h4.swap.pt_cell 1
  simp only [List.getElem?_toArray, List.getElem?_cons_zero, List.getElem?_cons_succ] at x1 z0 z1
  go_wp2_with fail
  refine (cQ _ h4.p2.q_row).mono ?_
  rintro y w4 ⟨v4, pr, mo, rfl, hpm, hn⟩
  have h5 := qrow_new h4.p2 hn
  obtain ⟨av4, nv4, cv4, rfl⟩ : ∃ av nv cv, v4 = .slice av nv cv := by obtain ⟨_, _, e⟩ := h5.q_row.len; exact ⟨_, _, _, e⟩
  have Hpm := Lib.hid hpm
  clear hn hpm x1 z0 z1 h4 cQ
  obtain ⟨b9, hb9⟩ : ∃ b9, w4.heap.size = b9 := ⟨_, rfl⟩
  have h6 := h5.alloc' (.cells #[.int .i64 (rm : Int), .slice av4 nv4 cv4, .string (bA pr), .int .i64 mo] 58) (n := b9) hb9.symm
  go_wp2_with fail
  generalize w4.alloc _ = w5 at h6 ⊢
  have hS : PlaySt W [pt b6 (.cells #[.int .i64 (rm : Int), .slice av nv cv] 54), pt bx (.cells #[.int .i64 room, .int .i64 most, .slice a n0 c0] 50)] rm most p b9 0 vq (.int .i64 c) (.int .i64 c) w5 := by
    have h7 := h6.p2
    have e1 := HX.out
    have e2 := Hvq.out
    have e3 := Hpm.out
    have e4 := Hst.out
    have e5 := Hsm.out
    have e6 := K2.out
    have e7 := K3.out
    rw [opH] at e1
    rw [opV] at e2
    by_cases hc : c = 0
    · rw [if_pos hc] at e1 e2
      obtain ⟨rfl, rfl⟩ := e3 hc
      subst e1
      have h8 : Sat W (wal q p [119] mo.toNat F1 :: disk p rm D1 :: _) w5 := Sat.flat (L := [wal q p [119] mo.toNat F1, disk p rm D1]) h7
      exact .inl ⟨q, D1, F1, _, e2.symm, by rw [hc], by rw [hc], Hm1.out hc, e4 hc, h8.p3.q2⟩
    · rw [if_neg hc] at e1 e2
      subst e1
      have h8 : Sat W (disk p rm D1 :: _) w5 := Sat.flat (L := [disk p rm D1]) h7
      exact .inr ⟨c, D1, _, pr, mo, hc, e2.symm, rfl, rfl, by omega, by omega, h8.p2.swap⟩
  clear h6 h5 hb9
  go_loopg [7, 8, 10, 11] 41 (fun gh v7 v8 v10 v11 wr => ∃ i : Nat, i ≤ na ∧ i ≤ 40 ∧ 41 ≤ i + gh ∧ v11 = .int .i64 (i : Int) ∧ PlaySt W [pt b6 (.cells #[.int .i64 (rm : Int), .slice av nv cv] 54), pt bx (.cells #[.int .i64 room, .int .i64 most, .slice a n0 c0] 50)] rm most p b9 i v7 v8 v10 wr)
  case atStart => exact ⟨0, by omega, by omega, by omega, rfl, hS⟩
  case round =>
    obtain ⟨i, hi1, hi2, hi3, rfl, hP⟩ := hrel
    by_cases hi : i < na ∧ i < 40
    · rcases hP with ⟨q, D9, F9, v9, rfl, rfl, rfl, hm9, hI, h9⟩ | ⟨c9, D9, v9, pr9, mo9, hc9, rfl, rfl, rfl, hl9, hu9, h9⟩
      · obtain ⟨hi4, hi5⟩ := hi
        obtain ⟨mo, rfl⟩ : ∃ mo : Nat, most = (mo : Int) := ⟨most.toNat, by omega⟩
        rw [Int.toNat_natCast] at h9
        have hm8 : 1 ≤ mo := by omega
        have hm7 : mo ≤ 9223372036854775807 := by omega
        obtain ⟨M, hM⟩ : ∃ M, [pt b6 (.cells #[.int .i64 (rm : Int), .slice av nv cv] 54), pt bx (.cells #[.int .i64 room, .int .i64 (mo : Int), .slice a n0 c0] 50)] = M := ⟨_, rfl⟩
        rw [hM] at h9
        obtain ⟨a9, cc9, rfl⟩ := h9.p2.q_row.len
        obtain ⟨g1, g2, g3, g4⟩ := hI.hyps (by omega)
        obtain ⟨x, hx⟩ : ∃ x, acts[i]? = some x := ⟨_, List.getElem?_eq_getElem (by rw [Hal.out]; exact hi4)⟩
        have hxo := Hok.out x (List.mem_of_getElem? hx)
        have hag := act_get hx
        obtain ⟨kind, num, text, ka, kn, kc, keep⟩ := x
        obtain ⟨o1, o2, o3, o4⟩ := hxo
        simp only at o1 o2 o3 o4
        obtain ⟨_, _, e, _, _, _, hcell⟩ := Har.out
        cases e
        obtain ⟨g, off, rfl, d0⟩ := hcell _ _ (hag 0 _ rfl)
        obtain ⟨_, _, e, d1⟩ := hcell _ _ (hag 1 _ rfl)
        cases e
        obtain ⟨_, _, e, d2⟩ := hcell _ _ (hag 2 _ rfl)
        cases e
        obtain ⟨_, _, e, d3⟩ := hcell _ _ (hag 3 _ rfl)
        cases e
        rw [Nat.add_zero] at d0
        rw [← Nat.add_assoc] at d1 d2 d3
        have hcw : ∀ (w' : World) (L' : List HP), Sat W L' w' → w'.cell? ⟨g, off + i * 4, none⟩ = some (.int .i64 kind) ∧ w'.cell? ⟨g, off + i * 4 + 1, none⟩ = some (.int .u64 (num : Int)) ∧ w'.cell? ⟨g, off + i * 4 + 2, none⟩ = some (.string text) ∧ w'.cell? ⟨g, off + i * 4 + 3, none⟩ = some (.slice ka kn kc) := fun w' L' h' => by
          refine ⟨?_, ?_, ?_, ?_⟩
          · rw [h'.old_cell (block_lt_of_cell d0)]; exact d0
          · rw [h'.old_cell (block_lt_of_cell d1)]; exact d1
          · rw [h'.old_cell (block_lt_of_cell d2)]; exact d2
          · rw [h'.old_cell (block_lt_of_cell d3)]; exact d3
        have hs := psame h9.q3 (by omega) (by omega)
        have z0 := h9.p3.pt_cell 0
        have z1 := h9.p3.pt_cell 1
        simp only [List.getElem?_toArray, List.getElem?_cons_zero, List.getElem?_cons_succ] at z0 z1
        have b1 : (i : Int) < (na : Int) := by omega
        have b2 : (i : Int) < 40 := by omega
        have HI := Lib.hid hI
        have Ho1 := Lib.hid o1
        have Ho3 := Lib.hid o3
        have Ho4 := Lib.hid o4
        have G1 := Lib.hid g1
        have G2 := Lib.hid g2
        clear d0 d1 d2 d3 hcell hag hx hS hI o1 o3 o4 g1 g2
        go_upto_region 14 with (first | (go_at_call 24; refine hs.mono ?_; rintro y wa ⟨rfl, h10⟩; obtain ⟨d0, d1, d2, d3⟩ := hcw _ _ h10))
        have h11 := (h10.p3.alloc' (.cells #[.int .i64 kind, .int .u64 (num : Int), .string text, .slice ka kn kc] 63) (n := wa.heap.size) rfl).q4
        generalize wa.heap.size = bt at h11 ⊢
        generalize wa.alloc _ = wb at h11 ⊢
        clear h9 h10 hs z0 z1 d0 d1 d2 d3 hcw
        have t0 := h11.p4.pt_cell 0
        have t1 := h11.p4.pt_cell 1
        have t2 := h11.p4.pt_cell 2
        have t3 := h11.p4.pt_cell 3
        have z0 := h11.p3.pt_cell 0
        have z1 := h11.p3.pt_cell 1
        have z2 := h11.p3.pt_cell 2
        have z3 := h11.p3.pt_cell 3
        simp only [List.getElem?_toArray, List.getElem?_cons_zero, List.getElem?_cons_succ] at t0 t1 t2 t3 z0 z1 z2 z3
        go_upto_block 2 with (fail)
        go_cut [7, 8, 10] (fun v7 v8 v10 wx => v7 = .pointer (some ⟨q, 0, none⟩) ∧ v8 = .int .i64 0 ∧ v10 = .int .i64 0 ∧ ∃ D2 F2 a2 c2, PlayI rm (i + 1) D2 F2 ∧ Sat W (wal q p [119] mo F2 :: disk p rm D2 :: qrow (.slice a2 D2.length c2) D2 :: pt b9 (.cells #[.int .i64 (rm : Int), .slice a2 D2.length c2, .string (bA [119]), .int .i64 (mo : Int)] 58) :: M) wx)
        case first =>
          rcases (show kind = 0 ∨ kind = 1 ∨ kind = 2 ∨ kind = 3 ∨ kind = 4 ∨ (kind ≠ 0 ∧ kind ≠ 1 ∧ kind ≠ 2 ∧ kind ≠ 3 ∧ kind ≠ 4) by omega) with rfl | rfl | rfl | rfl | rfl | ⟨e0, e1, e2, e3, e4⟩
          ·
            have hcu := fun (w' : World) => pcut (w := w') text 200 (by omega)
            obtain ⟨r, hr⟩ : ∃ r, text.data.toList.take 200 = r := ⟨_, rfl⟩
            have hrl : r.length ≤ 200 := by rw [← hr, List.length_take]; omega
            simp only [hr] at hcu
            obtain ⟨e, D2, F2, ea⟩ : ∃ e D2 F2, appendW rm mo [119] D9 F9 r = (e, D2, F2) := ⟨_, _, _, rfl⟩
            have hI2 := HI.out.append (most := mo) hm8 hrl
            rw [ea] at hI2
            have hap : ∀ (w' : World) (L' : List HP), Sat W (wal q p [119] mo F9 :: disk p rm D9 :: L') w' → Calls Tryz.prog 10 #[.pointer (some ⟨q, 0, none⟩), .string (bA r)] w' fun y w'' => y = .returned (.int .i64 e) ∧ Sat W (wal q p [119] mo F2 :: disk p rm D2 :: L') w'' := fun w' L' h' => by
              have := pwAppendA (r := r) hE (by omega) hm7 G1.out G2.out h'
              unfold AppPost at this
              rw [ea] at this
              exact this
            have hqa : ∀ (w' : World), qR w' (.slice a9 D9.length cc9) D9 → Calls Tryz.prog 25 #[wval (rm : Int) (.slice a9 D9.length cc9) [119] (mo : Int), .string (bA r)] w' fun y w'' => ∃ v', y = .returned (.tuple #[wval (rm : Int) v' [119] (mo : Int), .int .i64 e]) ∧ qNew w' w'' (.slice a9 D9.length cc9) v' D9 D2 := fun w' hq => by
              have := pqAppendW (room := rm) (most := (mo : Int)) (p := [119]) r (by omega) hq HI.out.log.ok (by omega) (by omega) (by decide) ⟨by omega, by omega⟩
              rw [app_eq HI.out.log, ea] at this
              exact this
            have HI2 := Lib.hid hI2
            clear hr hI2 ea G1 G2
            go_upto_region 22 with (first
              | (go_at_call 11; refine (hcu _).mono ?_; rintro y w5 ⟨rfl, rfl⟩)
              | (go_at_call 10; refine (hap _ _ h11).mono ?_; rintro y w6 ⟨rfl, h12⟩))
            clear h11 t0 t1 t2 t3 z0 z1 z2 z3 hap
            have hS : ∀ (w' : World) (L' : List HP), Sat W (pt b9 (.cells #[.int .i64 (rm : Int), .slice a9 D9.length cc9, .string (bA [119]), .int .i64 (mo : Int)] 58) :: pt bt (.cells #[.int .i64 0, .int .u64 (num : Int), .string text, .slice ka kn kc] 63) :: L') w' → w'.cell? ⟨b9, 0, none⟩ = some (.int .i64 (rm : Int)) ∧ w'.cell? ⟨b9, 1, none⟩ = some (.slice a9 D9.length cc9) ∧ w'.cell? ⟨b9, 2, none⟩ = some (.string (bA [119])) ∧ w'.cell? ⟨b9, 3, none⟩ = some (.int .i64 (mo : Int)) ∧ w'.cell? ⟨bt, 2, none⟩ = some (.string text) := fun w' L' h => ⟨h.pt_cell 0, h.pt_cell 1, h.pt_cell 2, h.pt_cell 3, h.swap.pt_cell 2⟩
            have h12 := h12.drew
            have hS0 := hS _ _ h12.p4.p4
            have h12z := h12.alloc' (.cells #[.int .i64 0, .slice none 0 0, .string ⟨#[]⟩, .int .i64 0] 58) (n := w6.heap.size) rfl
            go_cut [14, 15] (fun v14 v15 wx => ∃ b14 a2 c2, v14 = .pointer (some ⟨b14, 0, none⟩) ∧ v15 = .int .i64 e ∧ Sat W (pt b14 (.cells #[.int .i64 (rm : Int), .slice a2 D2.length c2, .string (bA [119]), .int .i64 (mo : Int)] 58) :: wal q p [119] mo F2 :: disk p rm D2 :: qrow (.slice a2 D2.length c2) D2 :: pt b9 (.cells #[.int .i64 (rm : Int), .slice a9 D9.length cc9, .string (bA [119]), .int .i64 (mo : Int)] 58) :: pt bt (.cells #[.int .i64 0, .int .u64 (num : Int), .string text, .slice ka kn kc] 63) :: M) wx)
            case first =>
              go_region_held3 (fun w' => w'.cell? ⟨b9, 0, none⟩ = some (.int .i64 (rm : Int)) ∧ w'.cell? ⟨b9, 1, none⟩ = some (.slice a9 D9.length cc9) ∧ w'.cell? ⟨b9, 2, none⟩ = some (.string (bA [119])) ∧ w'.cell? ⟨b9, 3, none⟩ = some (.int .i64 (mo : Int)) ∧ w'.cell? ⟨bt, 2, none⟩ = some (.string text))
                (first | exact hS0 | exact hS _ _ h12z.p5.p5 | exact hS _ _ h13.p4.p4 | exact hS _ _ (h13.alloc' (.cells #[.int .i64 0, .slice none 0 0, .string ⟨#[]⟩, .int .i64 0] 58) rfl).p5.p5 | exact hS _ _ h13.p5.p5 | exact hS _ _ (h13.alloc' (.cells #[.int .i64 (rm : Int), .slice a2 D2.length c2, .string (bA [119]), .int .i64 (mo : Int)] 58) rfl).p5.p5 | exact hS _ _ ((((h13.swap.set (j := 0) (.int .i64 (rm : Int))).set (j := 1) (.slice a2 D2.length c2)).set (j := 2) (.string (bA [119]))).set (j := 3) (.int .i64 (mo : Int))).p5.p5)
                (first
                  | (go_at_call 11; refine (hcu _).mono ?_; rintro y w5 ⟨rfl, rfl⟩)
                  | (go_at_call 25; refine (hqa _ h12.p2.q_row).mono ?_; rintro y w7 ⟨v7, rfl, hn⟩; have h13 := qrow_new h12.p2 hn; obtain ⟨a2, c2, rfl⟩ := h13.q_row.len)
                  | (go_at_call 25; refine (hqa _ h12z.p3.q_row).mono ?_; rintro y w7 ⟨v7, rfl, hn⟩; have h13 := qrow_new h12z.p3 hn; obtain ⟨a2, c2, rfl⟩ := h13.q_row.len; have y0 := h13.swap.pt_cell 0; have y1 := h13.swap.pt_cell 1; have y2 := h13.swap.pt_cell 2; have y3 := h13.swap.pt_cell 3; have f0 := h13.swap.pt_free 0; have f1 := h13.swap.pt_free 1; have f2 := h13.swap.pt_free 2; have f3 := h13.swap.pt_free 3; simp only [List.getElem?_toArray, List.getElem?_cons_zero, List.getElem?_cons_succ] at y0 y1 y2 y3))
              all_goals
                go_wp2_with fail
                go_meet
                case rel =>
                  first
                    | exact ⟨_, _, _, rfl, rfl, (h13.alloc' (.cells #[.int .i64 (rm : Int), .slice a2 D2.length c2, .string (bA [119]), .int .i64 (mo : Int)] 58) rfl).swap.q3⟩
                    | exact ⟨_, _, _, rfl, rfl, ((((h13.swap.set (j := 0) (.int .i64 (rm : Int))).set (j := 1) (.slice a2 D2.length c2)).set (j := 2) (.string (bA [119]))).set (j := 3) (.int .i64 (mo : Int))).swap.q3⟩
            case rest =>
              obtain ⟨b14, a2, c2, rfl, rfl, h15⟩ := hcut
              clear h12 h12z hS0 hS hqa hcu
              have y0 := h15.pt_cell 0
              have y1 := h15.pt_cell 1
              have y2 := h15.pt_cell 2
              have y3 := h15.pt_cell 3
              have z0 := h15.p4.pt_cell 0
              have z1 := h15.p4.pt_cell 1
              have z2 := h15.p4.pt_cell 2
              have z3 := h15.p4.pt_cell 3
              have f0 := h15.p4.pt_free 0
              have f1 := h15.p4.pt_free 1
              have f2 := h15.p4.pt_free 2
              have f3 := h15.p4.pt_free 3
              simp only [List.getElem?_toArray, List.getElem?_cons_zero, List.getElem?_cons_succ] at y0 y1 y2 y3 z0 z1 z2 z3
              have h16 := (((h15.p4.set (j := 0) (.int .i64 (rm : Int))).set (j := 1) (.slice a2 D2.length c2)).set (j := 2) (.string (bA [119]))).set (j := 3) (.int .i64 (mo : Int))
              simp only [List.setIfInBounds_toArray, List.set_cons_zero, List.set_cons_succ] at h16
              have q1 : (e == e) = true := by simp
              have q2 : (e != e) = false := by simp
              go_wp2_with fail
              go_meet
              case rel => exact ⟨rfl, rfl, rfl, D2, F2, a2, c2, HI2.out, h16.swap.drop.q3.p4.drop⟩
          ·
            obtain ⟨D2, hD2⟩ : ∃ D2, syncW D9 [119] F9 = D2 := ⟨_, rfl⟩
            have hI2 := HI.out.sync
            rw [hD2] at hI2
            have hQ := QD.of HI.out.log.ok (by omega) (by omega)
            have hsy : ∀ (w' : World) (L' : List HP), Sat W (wal q p [119] mo F9 :: disk p rm D9 :: L') w' → Calls Tryz.prog 9 #[.pointer (some ⟨q, 0, none⟩)] w' fun y w'' => y = .returned (.int .i64 0) ∧ Sat W (wal q p [119] mo F9 :: disk p rm D2 :: L') w'' := fun w' L' h' => by
              have := pwSync hE h'
              rw [hD2] at this
              exact this
            have hqs : ∀ (w' : World), qR w' (.slice a9 D9.length cc9) D9 → Calls Tryz.prog 26 #[wval (rm : Int) (.slice a9 D9.length cc9) [119] (mo : Int)] w' fun y w'' => ∃ v', y = .returned (wval (rm : Int) v' [119] (mo : Int)) ∧ qNew w' w'' (.slice a9 D9.length cc9) v' D9 D2 := fun w' hq => by
              have := pqSyncW (room := (rm : Int)) (most := (mo : Int)) (p := [119]) hq hQ (by decide)
              rw [sync_eq HI.out.log, hD2] at this
              exact this
            have HI2 := Lib.hid hI2
            clear hI2 hD2 G1 G2 hQ
            go_upto_region 28 with (go_at_call 26; refine (hqs _ h11.p2.q_row).mono ?_; rintro y w6 ⟨v2, rfl, hn⟩; have h12 := qrow_new h11.p2 hn; obtain ⟨a2, c2, rfl⟩ := h12.q_row.len; have y0 := h12.p3.pt_cell 0; have y1 := h12.p3.pt_cell 1; have y2 := h12.p3.pt_cell 2; have y3 := h12.p3.pt_cell 3; have f0 := h12.p3.pt_free 0; have f1 := h12.p3.pt_free 1; have f2 := h12.p3.pt_free 2; have f3 := h12.p3.pt_free 3; simp only [List.getElem?_toArray, List.getElem?_cons_zero, List.getElem?_cons_succ] at y0 y1 y2 y3)
            have h13 := (((h12.p3.set (j := 0) (.int .i64 (rm : Int))).set (j := 1) (.slice a2 D2.length c2)).set (j := 2) (.string (bA [119]))).set (j := 3) (.int .i64 (mo : Int))
            simp only [List.setIfInBounds_toArray, List.set_cons_zero, List.set_cons_succ] at h13
            generalize World.setCell _ _ _ = w7 at h13 ⊢
            clear h11 h12 hn t0 t1 t2 t3 z0 z1 z2 z3 y0 y1 y2 y3 f0 f1 f2 f3
            have h14 := h13.p3.p3
            go_wp2_with (go_at_call 9; refine (hsy _ _ h14).mono ?_; rintro y w8 ⟨rfl, h15⟩)
            go_meet
            case rel => exact ⟨rfl, rfl, rfl, D2, F9, a2, c2, HI2.out, h15.p3.q2.p4.drop⟩
          ·
            obtain ⟨e, D2, F2, ea⟩ : ∃ e D2 F2, cutW rm [119] D9 F9 num = (e, D2, F2) := ⟨_, _, _, rfl⟩
            have hI2 := HI.out.cut num
            rw [ea] at hI2
            have hct : ∀ (w' : World) (L' : List HP), Sat W (wal q p [119] mo F9 :: disk p rm D9 :: L') w' → Calls Tryz.prog 21 #[.pointer (some ⟨q, 0, none⟩), .int .u64 (num : Int)] w' fun y w'' => y = .returned (.int .i64 e) ∧ Sat W (wal q p [119] mo F2 :: disk p rm D2 :: L') w'' := fun w' L' h' => by
              have := pwCut (fr := num) hE HI.out.log.chain HI.out.log.recs o2 h'
              unfold CutPost at this
              rw [ea] at this
              exact this
            have hqc : ∀ (w' : World), qR w' (.slice a9 D9.length cc9) D9 → Calls Tryz.prog 27 #[wval (rm : Int) (.slice a9 D9.length cc9) [119] (mo : Int), .int .u64 (num : Int)] w' fun y w'' => ∃ v', y = .returned (.tuple #[wval (rm : Int) v' [119] (mo : Int), .int .i64 e]) ∧ qNew w' w'' (.slice a9 D9.length cc9) v' D9 D2 := fun w' hq => by
              have := pqCut (room := rm) (most := (mo : Int)) (p := [119]) num o2 hq HI.out.log.ok (by omega) (by omega) (by decide) (fun _ hx => cut_ok HI.out.log num hx)
              rw [cut_eq HI.out.log, ea] at this
              exact this
            have HI2 := Lib.hid hI2
            clear hI2 ea G1 G2
            go_upto_region 32 with (go_at_call 21; refine (hct _ _ h11).mono ?_; rintro y w6 ⟨rfl, h12⟩)
            clear h11 t0 t1 t2 t3 z0 z1 z2 z3 hct
            have t1 := h12.p4.pt_cell 1
            have z0 := h12.p3.pt_cell 0
            have z1 := h12.p3.pt_cell 1
            have z2 := h12.p3.pt_cell 2
            have z3 := h12.p3.pt_cell 3
            simp only [List.getElem?_toArray, List.getElem?_cons_zero, List.getElem?_cons_succ] at t1 z0 z1 z2 z3
            go_upto_region 33 with (go_at_call 27; refine (hqc _ h12.p2.q_row).mono ?_; rintro y w7 ⟨v2, rfl, hn⟩; have h13 := qrow_new h12.p2 hn; obtain ⟨a2, c2, rfl⟩ := h13.q_row.len)
            have h14 := h13.alloc' (.cells #[.int .i64 (rm : Int), .slice a2 D2.length c2, .string (bA [119]), .int .i64 (mo : Int)] 58) (n := w7.heap.size) rfl
            generalize w7.heap.size = b17 at h14 ⊢
            generalize w7.alloc _ = w8 at h14 ⊢
            clear h12 h13 hn t1 z0 z1 z2 z3 hqc
            have y0 := h14.pt_cell 0
            have y1 := h14.pt_cell 1
            have y2 := h14.pt_cell 2
            have y3 := h14.pt_cell 3
            have z0 := h14.p4.pt_cell 0
            have z1 := h14.p4.pt_cell 1
            have z2 := h14.p4.pt_cell 2
            have z3 := h14.p4.pt_cell 3
            have f0 := h14.p4.pt_free 0
            have f1 := h14.p4.pt_free 1
            have f2 := h14.p4.pt_free 2
            have f3 := h14.p4.pt_free 3
            simp only [List.getElem?_toArray, List.getElem?_cons_zero, List.getElem?_cons_succ] at y0 y1 y2 y3 z0 z1 z2 z3
            have h15 := (((h14.p4.set (j := 0) (.int .i64 (rm : Int))).set (j := 1) (.slice a2 D2.length c2)).set (j := 2) (.string (bA [119]))).set (j := 3) (.int .i64 (mo : Int))
            simp only [List.setIfInBounds_toArray, List.set_cons_zero, List.set_cons_succ] at h15
            have q1 : (e == e) = true := by simp
            have q2 : (e != e) = false := by simp
            go_wp2_with fail
            go_meet
            case rel => exact ⟨rfl, rfl, rfl, D2, F2, a2, c2, HI2.out, h15.swap.drop.p3.p3.p3.q2.p4.drop⟩
          ·
            obtain ⟨D2, F2, ea⟩ : ∃ D2 F2, dropW [119] num F9 D9 = (D2, F2) := ⟨_, _, rfl⟩
            have hI2 := HI.out.drop num
            rw [ea] at hI2
            have hQ := QD.of HI.out.log.ok (by omega) (by omega)
            have hdr : ∀ (w' : World) (L' : List HP), Sat W (wal q p [119] mo F9 :: disk p rm D9 :: L') w' → Calls Tryz.prog 20 #[.pointer (some ⟨q, 0, none⟩), .int .u64 (num : Int)] w' fun y w'' => y = .returned (.int .i64 0) ∧ Sat W (wal q p [119] mo F2 :: disk p rm D2 :: L') w'' := fun w' L' h' => by
              have := pwDrop hE num o2 h'
              rw [ea] at this
              exact this
            have hqd : ∀ (w' : World), qR w' (.slice a9 D9.length cc9) D9 → Calls Tryz.prog 28 #[wval (rm : Int) (.slice a9 D9.length cc9) [119] (mo : Int), .int .u64 (num : Int)] w' fun y w'' => ∃ v', y = .returned (wval (rm : Int) v' [119] (mo : Int)) ∧ qNew w' w'' (.slice a9 D9.length cc9) v' D9 D2 := fun w' hq => by
              have := pqDrop (room := (rm : Int)) (most := (mo : Int)) (p := [119]) num o2 hq hQ (by decide)
              rw [drop_eq HI.out.log, ea] at this
              exact this
            have HI2 := Lib.hid hI2
            clear hI2 ea G1 G2 hQ
            go_upto_region 38 with (go_at_call 28; refine (hqd _ h11.p2.q_row).mono ?_; rintro y w6 ⟨v2, rfl, hn⟩; have h12 := qrow_new h11.p2 hn; obtain ⟨a2, c2, rfl⟩ := h12.q_row.len; have y0 := h12.p3.pt_cell 0; have y1 := h12.p3.pt_cell 1; have y2 := h12.p3.pt_cell 2; have y3 := h12.p3.pt_cell 3; have f0 := h12.p3.pt_free 0; have f1 := h12.p3.pt_free 1; have f2 := h12.p3.pt_free 2; have f3 := h12.p3.pt_free 3; simp only [List.getElem?_toArray, List.getElem?_cons_zero, List.getElem?_cons_succ] at y0 y1 y2 y3)
            have h13 := (((h12.p3.set (j := 0) (.int .i64 (rm : Int))).set (j := 1) (.slice a2 D2.length c2)).set (j := 2) (.string (bA [119]))).set (j := 3) (.int .i64 (mo : Int))
            simp only [List.setIfInBounds_toArray, List.set_cons_zero, List.set_cons_succ] at h13
            generalize World.setCell _ _ _ = w7 at h13 ⊢
            clear h11 h12 hn t0 t1 t2 t3 z0 z1 z2 z3 y0 y1 y2 y3 f0 f1 f2 f3
            have h14 := h13.p3.p3
            have t1 := h14.p4.pt_cell 1
            simp only [List.getElem?_toArray, List.getElem?_cons_zero, List.getElem?_cons_succ] at t1
            go_wp2_with (go_at_call 20; refine (hdr _ _ h14).mono ?_; rintro y w8 ⟨rfl, h15⟩)
            go_meet
            case rel => exact ⟨rfl, rfl, rfl, D2, F2, a2, c2, HI2.out, h15.p3.q2.p4.drop⟩
          ·
            obtain ⟨s, e, ge1, ge2⟩ : ∃ s e, getV F9 num = .tuple #[.string s, .int .i64 e] ∧ getQV (getW F9 num) = .tuple #[.string s, .int .i64 e] := by unfold getV; cases getW F9 num <;> exact ⟨_, _, rfl, rfl⟩
            have hQ := QD.of HI.out.log.ok (by omega) (by omega)
            have hg := pwGet num o2 h11
            rw [ge1] at hg
            have hqg : ∀ (w' : World), qR w' (.slice a9 D9.length cc9) D9 → Calls Tryz.prog 29 #[wval (rm : Int) (.slice a9 D9.length cc9) [119] (mo : Int), .int .u64 (num : Int)] w' fun y w'' => y = .returned (.tuple #[.string s, .int .i64 e]) ∧ Below w'.heap.size w' w'' := fun w' hq => by
              have := pqGet (room := (rm : Int)) (most := (mo : Int)) (p := [119]) num o2 hq hQ (by decide)
              rw [get_eq HI.out.log, ge2] at this
              exact this
            clear ge1 ge2 G1 G2 hQ
            go_upto_region 42 with (go_at_call 15; refine hg.mono ?_; rintro y w6 ⟨rfl, k6, rfl⟩)
            have h12 := h11.drewN k6
            clear h11 t0 t1 t2 t3 z0 z1 z2 z3 hg
            have t1 := h12.p4.pt_cell 1
            have z0 := h12.p3.pt_cell 0
            have z1 := h12.p3.pt_cell 1
            have z2 := h12.p3.pt_cell 2
            have z3 := h12.p3.pt_cell 3
            simp only [List.getElem?_toArray, List.getElem?_cons_zero, List.getElem?_cons_succ] at t1 z0 z1 z2 z3
            have q1 : (e == e) = true := by simp
            have q2 : (e != e) = false := by simp
            go_wp2_with (go_at_call 29; refine (hqg _ h12.p2.q_row).mono ?_; rintro y w7 ⟨rfl, hb7⟩; have h13 := h12.of_below hb7)
            go_meet
            case rel => exact ⟨rfl, rfl, rfl, D9, F9, a9, cc9, HI.out.same, h13.p4.drop⟩
          ·
            subst hM
            have hrk := reads_takeI 20 Ho3.out Ho4.out
            obtain ⟨ks, hks⟩ : ∃ ks, keep.take 20 = ks := ⟨_, rfl⟩
            obtain ⟨m, hm⟩ : ∃ m, min kn 20 = m := ⟨_, rfl⟩
            have hkl : ks.length = m := by rw [← hks, List.length_take, Ho3.out]; omega
            rw [hm, hks] at hrk
            have hkn : kn ≤ kc := by obtain ⟨_, _, e, _, h, _⟩ := Ho4.out; cases e; exact h
            have hmin : min (kn : Int) 20 = (m : Int) := by omega
            have hm2 : (m : Int) ≤ (kc : Int) := by omega
            have hm3 : (0 : Int) ≤ (m : Int) := by omega
            obtain ⟨D3, hD3⟩ : ∃ D3, crashD ks 0 D9 = D3 := ⟨_, rfl⟩
            have hok3 : DOk rm D3 := by rw [← hD3]; exact HI.out.log.ok.crash ks
            have hl3 : D3.length ≤ 999000 := by have := crash_len ks 0 D9; rw [hD3] at this; omega
            have hu3 : usedD D3 ≤ 500000000000 := by have := used_crash ks 0 D9 HI.out.log.ok.sync; rw [hD3] at this; omega
            have hcr : ∀ (w' : World) (L' : List HP), Sat W (disk p rm D9 :: L') w' → Calls Tryz.prog 12 #[.pointer (some ⟨p, 0, none⟩), .slice ka m kc] w' fun y w'' => y = .returned (.tuple #[]) ∧ Sat W (disk p rm D3 :: L') w'' := fun w' L' h' => by
              have := pdCrash (kv := .slice ka m kc) ks (fun X w2 h2 => h2.reads hrk) h' (by omega) (by omega)
              rw [hD3] at this
              exact this
            have hqc : ∀ (w' : World) (L' : List HP), Sat W L' w' → qR w' (.slice a9 D9.length cc9) D9 → Calls Tryz.prog 30 #[qval (rm : Int) (.slice a9 D9.length cc9), .slice ka m kc] w' fun y w'' => ∃ v', y = .returned (qval (rm : Int) v') ∧ Sat w' (qrow v' D3 :: []) w'' := fun w' L' h' hq => by
              have := pqCrash (room := (rm : Int)) ks (ka := ka) (kc := kc) (by have := h'.reads hrk; rw [hkl] at this ⊢; exact this) (by omega) hq HI.out.log.ok.sync (by omega) (by omega)
              rw [hkl, hD3] at this
              exact this
            have hst : (openM rm (mo : Int) D3).1 = 0 → PlayI rm (i + 1) (openM rm (mo : Int) D3).2.1 (openM rm (mo : Int) D3).2.2 := fun h0 => by
              have := openM_ok (most := (mo : Int)) HI.out ks (by rw [hD3]; exact h0)
              rw [hD3] at this
              exact this
            have hsm := openM_small (most := (mo : Int)) hok3
            have hop := fun (w' : World) (L' : List HP) (h' : Sat W (disk p rm D3 :: L') w') => pwOpenX hE (mo : Int) (by omega) hl3 hu3 h'
            have cQ := fun (a3 : Option Addr) (c3 : Nat) (w' : World) (h' : qR w' (.slice a3 D3.length c3) D3) => pqOpenM (mo : Int) (by omega) hok3 hl3 hu3 h'
            obtain ⟨c, hc⟩ : ∃ c, (openM rm (mo : Int) D3).1 = c := ⟨_, rfl⟩
            obtain ⟨D4, hD4⟩ : ∃ D4, (openM rm (mo : Int) D3).2.1 = D4 := ⟨_, rfl⟩
            obtain ⟨F4, hF4⟩ : ∃ F4, (openM rm (mo : Int) D3).2.2 = F4 := ⟨_, rfl⟩
            simp only [hc, hD4, hF4] at hop cQ
            rw [hc, hD4, hF4] at hst
            rw [hD4] at hsm
            have Hst := Lib.hid hst
            have Hsm := Lib.hid hsm
            clear hst hsm hc hD4 hF4 hD3 hks hm G1 G2 hok3
            have Hl3 := Lib.hid hl3
            have Hu3 := Lib.hid hu3
            have r0 : (kind == 0) = false := by simpa using e0
            have r1 : (kind == 1) = false := by simpa using e1
            have r2 : (kind == 2) = false := by simpa using e2
            have r3 : (kind == 3) = false := by simpa using e3
            have r4 : (kind == 4) = false := by simpa using e4
            have s0 : decide (kind = 0) = false := by simpa using e0
            have s1 : decide (kind = 1) = false := by simpa using e1
            have s2 : decide (kind = 2) = false := by simpa using e2
            have s3 : decide (kind = 3) = false := by simpa using e3
            have s4 : decide (kind = 4) = false := by simpa using e4
            clear e0 e1 e2 e3 e4 hl3 hu3 hkn
            go_upto_region 17 with (go_at_call 12; refine (hcr _ _ h11.drop).mono ?_; rintro y w6 ⟨rfl, h12⟩)
            clear h11 t0 t1 t2 t3 z0 z1 z2 z3 hcr
            have z0 := h12.p2.pt_cell 0
            have z1 := h12.p2.pt_cell 1
            simp only [List.getElem?_toArray, List.getElem?_cons_zero, List.getElem?_cons_succ] at z0 z1
            go_upto_region 18 with (go_at_call 30; refine (hqc _ _ h12 h12.swap.q_row).mono ?_; rintro y w7 ⟨v3, rfl, hs7⟩; have h13 := h12.over hs7; obtain ⟨a3, c3, rfl⟩ := h13.q_row.len; have y0 := h13.p3.pt_cell 0; have y1 := h13.p3.pt_cell 1; have f0 := h13.p3.pt_free 0; have f1 := h13.p3.pt_free 1; simp only [List.getElem?_toArray, List.getElem?_cons_zero, List.getElem?_cons_succ] at y0 y1)
            have h14 := (h13.p3.set (j := 0) (.int .i64 (rm : Int))).set (j := 1) (.slice a3 D3.length c3)
            simp only [List.setIfInBounds_toArray, List.set_cons_zero, List.set_cons_succ] at h14
            generalize World.setCell _ _ _ = w8 at h14 ⊢
            have h15 := h14.p3.drop.p2
            clear h12 hs7 h13 h14 z0 z1 y0 y1 f0 f1 hqc
            have x1 := h15.p5.pt_cell 1
            simp only [List.getElem?_toArray, List.getElem?_cons_zero, List.getElem?_cons_succ] at x1
            go_wp2_with fail
            refine (hop _ _ h15).mono ?_
            rintro y w9 ⟨q2, rfl, h16⟩
            obtain ⟨vq, hvq⟩ : ∃ vq, opV c q2 = vq := ⟨_, rfl⟩
            obtain ⟨X, hX⟩ : ∃ X, opH c q2 p rm (mo : Int) D4 F4 = X := ⟨_, rfl⟩
            rw [hX] at h16
            rw [hvq]
            have Hvq := Lib.hid hvq
            have HX := Lib.hid hX
            clear hvq hX x1 h15 hop
            have x1 := h16.p5.pt_cell 1
            have z0 := h16.swap.pt_cell 0
            have z1 := h16.swap.pt_cell 1
            simp only [List.getElem?_toArray, List.getElem?_cons_zero, List.getElem?_cons_succ] at x1 z0 z1
            go_wp2_with fail
            refine (cQ _ _ _ h16.p2.q_row).mono ?_
            rintro y w10 ⟨v4, pr, mr, rfl, hpm, hn⟩
            have h17 := qrow_new h16.p2 hn
            obtain ⟨a4, c4, rfl⟩ := h17.q_row.len
            have Hpm := Lib.hid hpm
            clear hn hpm x1 z0 z1 h16 cQ
            have y0 := h17.p2.pt_cell 0
            have y1 := h17.p2.pt_cell 1
            have y2 := h17.p2.pt_cell 2
            have y3 := h17.p2.pt_cell 3
            have f0 := h17.p2.pt_free 0
            have f1 := h17.p2.pt_free 1
            have f2 := h17.p2.pt_free 2
            have f3 := h17.p2.pt_free 3
            simp only [List.getElem?_toArray, List.getElem?_cons_zero, List.getElem?_cons_succ] at y0 y1 y2 y3
            have h18 := (((h17.p2.set (j := 0) (.int .i64 (rm : Int))).set (j := 1) (.slice a4 D4.length c4)).set (j := 2) (.string (bA pr))).set (j := 3) (.int .i64 mr)
            simp only [List.setIfInBounds_toArray, List.set_cons_zero, List.set_cons_succ] at h18
            go_wp2_with fail
            generalize World.setCell _ _ _ = w11 at h18 ⊢
            have h19 := h18.p3.drop.p2
            clear h17 h18 y0 y1 y2 y3 f0 f1 f2 f3
            go_roundg (gk - 1)
            case measure => omega
            case rel =>
              refine ⟨i + 1, by omega, by omega, by omega, by go_num, ?_⟩
              have e1 := HX.out
              have e2 := Hvq.out
              have e3 := Hpm.out
              have e4 := Hst.out
              have e5 := Hsm.out
              have e6 := Hl3.out
              have e7 := Hu3.out
              rw [opH, Int.toNat_natCast] at e1
              rw [opV] at e2
              by_cases hc : c = 0
              · rw [if_pos hc] at e1 e2
                obtain ⟨rfl, rfl⟩ := e3 hc
                subst e1
                have h21 : Sat W (wal q2 p [119] mo F4 :: disk p rm D4 :: _) w11 := Sat.flat (L := [wal q2 p [119] mo F4, disk p rm D4]) h19
                exact .inl ⟨q2, D4, F4, _, e2.symm, by rw [hc], by rw [hc], hm9, e4 hc, h21.p3.q2⟩
              · rw [if_neg hc] at e1 e2
                subst e1
                have h21 : Sat W (disk p rm D4 :: _) w11 := Sat.flat (L := [disk p rm D4]) h19
                exact .inr ⟨c, D4, _, pr, mr, hc, e2.symm, rfl, rfl, by omega, by omega, h21.p2.swap⟩
        case rest =>
          obtain ⟨rfl, rfl, rfl, D2, F2, a2, c2, hI2, h20⟩ := hcut
          clear h11 t0 t1 t2 t3 z0 z1 z2 z3
          obtain ⟨g1, g2, g3, g4⟩ := hI2.hyps (by omega)
          have hQ := QD.of hI2.log.ok (by omega) (by omega)
          have h20 := h20.drew
          have cF := pwFirst h20
          have cN := fun (w' : World) (L' : List HP) (h' : Sat W (wal q p [119] mo F2 :: L') w') => pwNext h'
          have cF2 := fun (w' : World) (hq : qR w' (.slice a2 D2.length c2) D2) => pqFirst (w := w') (room := (rm : Int)) (most := (mo : Int)) (p := [119]) hq hQ (by decide)
          have cN2 := fun (w' : World) (hq : qR w' (.slice a2 D2.length c2) D2) => pqNext (w := w') (room := (rm : Int)) (most := (mo : Int)) (p := [119]) hq hQ (by decide)
          simp only [first_eq hI2.log] at cF2
          simp only [next_eq hI2.log] at cN2
          obtain ⟨fw, hfw⟩ : ∃ fw, firstW F2 = fw := ⟨_, rfl⟩
          obtain ⟨nw, hnw⟩ : ∃ nw, nextW F2 = nw := ⟨_, rfl⟩
          rw [hfw] at cF
          simp only [hfw] at cF2
          simp only [hnw] at cN cN2
          have hS : ∀ w' (L' : List HP), Sat W (pt b9 (.cells #[.int .i64 (rm : Int), .slice a2 D2.length c2, .string (bA [119]), .int .i64 (mo : Int)] 58) :: L') w' → w'.cell? ⟨b9, 0, none⟩ = some (.int .i64 (rm : Int)) ∧ w'.cell? ⟨b9, 1, none⟩ = some (.slice a2 D2.length c2) ∧ w'.cell? ⟨b9, 2, none⟩ = some (.string (bA [119])) ∧ w'.cell? ⟨b9, 3, none⟩ = some (.int .i64 (mo : Int)) := fun w' L' h => ⟨h.pt_cell 0, h.pt_cell 1, h.pt_cell 2, h.pt_cell 3⟩
          have hq0 := hS _ _ h20.p3
          have HI2 := Lib.hid hI2
          clear hfw hnw hI2 hQ g1 g2 g3 g4
          go_upto_region 45 with (fail)
          go_region_held3 (fun w' => w'.cell? ⟨b9, 0, none⟩ = some (.int .i64 (rm : Int)) ∧ w'.cell? ⟨b9, 1, none⟩ = some (.slice a2 D2.length c2) ∧ w'.cell? ⟨b9, 2, none⟩ = some (.string (bA [119])) ∧ w'.cell? ⟨b9, 3, none⟩ = some (.int .i64 (mo : Int)))
            (first | exact hq0 | exact hS _ _ h23.p3 | exact hS _ _ h22.p3 | exact hS _ _ h21.p3)
            (first
              | (go_at_call 13; refine cF.mono ?_; rintro y w20 ⟨rfl, rfl⟩)
              | (go_at_call 31; refine (cF2 _ h20.p2.q_row).mono ?_; rintro y w21 ⟨rfl, hb21⟩; have h21 := h20.of_below hb21)
              | (go_at_call 14; refine (cN _ _ h21).mono ?_; rintro y w22 ⟨rfl, k22, rfl⟩; have h22 := h21.drewN k22)
              | (go_at_call 32; refine (cN2 _ h22.p2.q_row).mono ?_; rintro y w23 ⟨rfl, hb23⟩; have h23 := h22.of_below hb23))
          go_wp2_with fail
          go_roundg (gk - 1)
          case measure => omega
          case rel =>
            subst hM
            exact ⟨i + 1, by omega, by omega, by omega, by go_num, .inl ⟨q, D2, F2, _, rfl, rfl, rfl, hm9, HI2.out, h23⟩⟩
      · obtain ⟨a9, cc9, rfl⟩ := h9.swap.q_row.len
        have hs := psame h9 hl9 hu9
        have z0 := h9.p2.pt_cell 0
        have z1 := h9.p2.pt_cell 1
        simp only [List.getElem?_toArray, List.getElem?_cons_zero, List.getElem?_cons_succ] at z0 z1
        have b1 : (i : Int) < (na : Int) := by omega
        have b2 : (i : Int) < 40 := by omega
        have q1 : (c9 == 0) = false := by simpa using hc9
        have q2 : (c9 != 0) = true := by simpa using hc9
        have q3 : decide (c9 = 0) = false := by simpa using hc9
        clear hl9 hu9 hS hi
        go_wp2_with (first
          | (go_at_call 24; refine hs.mono ?_; rintro y wa ⟨rfl, h10⟩)
          | (go_at_call 16; refine (hworks _).mono ?_; rintro y wb ⟨rfl, hbb⟩; have h11 := h10.of_below hbb))
        go_ret
        exact ⟨rfl, h11.below⟩
    · obtain ⟨c9, D9, a9, n9, cc9, pr9, mo9, M9, rfl, rfl, hl9, hu9, h9⟩ := hP.disks (by omega)
      have hs := psame h9 hl9 hu9
      have z0 := h9.p2.pt_cell 0
      have z1 := h9.p2.pt_cell 1
      simp only [List.getElem?_toArray, List.getElem?_cons_zero, List.getElem?_cons_succ] at z0 z1
      clear hP hl9 hu9 hS
      rcases (show ((i : Int) < (na : Int) ∧ ¬ (i : Int) < 40) ∨ ¬ (i : Int) < (na : Int) by omega) with ⟨b1, b2⟩ | b1
      all_goals
        clear hi
        go_wp2_with (first
          | (go_at_call 24; refine hs.mono ?_; rintro y wa ⟨rfl, h10⟩)
          | (go_at_call 16; refine (hworks _).mono ?_; rintro y wb ⟨rfl, hbb⟩; have h11 := h10.of_below hbb))
        go_ret
        exact ⟨rfl, h11.below⟩
end
end Go.Proofs.YtdngjkjoahgelaaGreatDoor
