/-
  WalLasts: the law's walk.
-/
import Derived.Test.YtdngjkjoahgelaaGreatDoorWn1
import Derived.Test.YtdngjkjoahgelaaGreatDoorWlA
import Derived.Test.YtdngjkjoahgelaaGreatDoorWaC
import Derived.Test.YtdngjkjoahgelaaGreatDoorWalK
namespace Go.Proofs.YtdngjkjoahgelaaGreatDoor
set_option linter.all false
set_option maxRecDepth 100000
set_option maxHeartbeats 4000000
open Go.RowKit
theorem intElem64 : Elem Tryz.prog 33 3 (.int .i64 0) 1 8 :=
  ⟨Tryz.underlying33, by kernel_rfl, rfl, by decide, by simp [Value.cells, Value.oneCell']⟩
theorem tmod_bd (b : Int) {n : Int} (hn : 0 < n) : -n < b.tmod n ∧ b.tmod n < n := by
  have h1 := Int.tmod_lt_of_pos b hn
  have h2 := Int.tmod_lt_of_pos (-b) hn
  rw [Int.neg_tmod] at h2
  omega
theorem i64_id {x : Int} (h1 : -9223372036854775808 ≤ x) (h2 : x ≤ 9223372036854775807) : IntKind.i64.wrap x = x := by simp [IntKind.wrap, IntKind.bits, IntKind.signed]; omega
theorem open_ok {B : World} {L : List HP} {p room most : Nat} {pre : Bt} {D D' : Fls} {F : List WF} {y : Ending} {w' : World} (hop : openW room D pre = (0, D', F)) (hy : OpenPost B L p room most pre D y w') :
    ∃ q, y = .returned (.tuple #[.pointer (some ⟨q, 0, none⟩), .int .i64 0]) ∧ Sat B (wal q p pre most F :: disk p room D' :: L) w' := by
  unfold OpenPost at hy
  rw [hop] at hy
  rcases hy with ⟨_, q, h1, h2⟩ | ⟨h1, _⟩
  · exact ⟨q, h1, h2⟩
  · exact absurd rfl h1
theorem app_ok {B : World} {L : List HP} {q p most : Nat} {ks : List Bt} {k i : Nat} {D : Fls} {F : List WF} {r : Bt} (hE : Env B) (h : LastS ks k i D F) (hm1 : 1 ≤ most) (hm2 : most ≤ 9223372036854775807) (hr : ks[i]? = some r) (hrl : r.length ≤ 100) (hi : i < 30) (hk : k ≤ i) :
    ∃ D' F', LastS ks k (i + 1) D' F' ∧ ∀ w', Sat B (wal q p [119] most F :: disk p 1048576 D :: L) w' → Calls Tryz.prog 10 #[.pointer (some ⟨q, 0, none⟩), .string (bA r)] w' fun y w'' => y = .returned (.int .i64 0) ∧ Sat B (wal q p [119] most F' :: disk p 1048576 D' :: L) w'' := by
  obtain ⟨D2, F2, e, hL2⟩ := h.append (most := most) hm1 hr hrl hi hk
  have hlt := (List.getElem?_eq_some_iff.1 hr).1
  obtain ⟨y1, y2, y3⟩ := h.hyps (by omega) (by omega)
  refine ⟨D2, F2, hL2, fun w' h' => ?_⟩
  have hap := pwAppend (r := r) hE (by omega) hm2 y1 y2 y3 h'
  unfold AppPost at hap
  rw [e] at hap
  exact hap
def cutL (k : Nat) (keys : List ByteArray) : List Bt := keys.map fun s => s.data.toList.take k
theorem walLasts_walk (W : World) (hE : Env W) (keys : List ByteArray) (a : Option Addr) (n0 c0 : Nat) (hkn : keys.length = n0) (hks : ∀ s ∈ keys, s.size ≤ 9223372036854775807) (hr : reads W (.slice a n0 c0) n0 (keys.map Value.string)) (sy x0 x1 : Int)
    (hsy : -9223372036854775808 ≤ sy ∧ sy ≤ 9223372036854775807) (hx0 : -9223372036854775808 ≤ x0 ∧ x0 ≤ 9223372036854775807) :
    Calls Tryz.prog 3 #[.slice a n0 c0, .int .i64 sy, .agg #[.int .i64 x0, .int .i64 x1]] W fun y w' => y = .returned (.bool true) ∧ Below W.heap.size W w' := by
  have h0 := Sat.start W
  obtain ⟨n, hn⟩ : ∃ n, min n0 30 = n := ⟨_, rfl⟩
  have hn30 : n ≤ 30 := by omega
  have hnn : n ≤ n0 := by omega
  have hmin : min (n0 : Int) 30 = (n : Int) := by omega
  obtain ⟨t1, ht1⟩ : ∃ t1, x0.tmod 200 = t1 := ⟨_, rfl⟩
  have t2 := tmod_bd x0 (n := 200) (by omega)
  rw [ht1] at t2
  obtain ⟨t3, ht3⟩ : ∃ t3, (t1 + 200).tmod 200 = t3 := ⟨_, rfl⟩
  have t4 : 0 ≤ t3 ∧ t3 < 200 := by
    rw [← ht3, Int.tmod_eq_emod_of_nonneg (by omega)]; omega
  obtain ⟨most, hmost⟩ : ∃ most : Nat, 1 + t3 = (most : Int) := ⟨(1 + t3).toNat, by omega⟩
  have hm1 : 1 ≤ most := by omega
  have hm2 : most ≤ 9223372036854775807 := by omega
  have hnw := fun (w' : World) (h' : Sat W [] w') => pdNew (L := [pt w'.heap.size (.cells #[.int .i64 x0, .int .i64 x1] 23)]) 1048576 (by omega) (h'.alloc (.cells #[.int .i64 x0, .int .i64 x1] 23))
  have c0 := hr
  obtain ⟨_, _, e, ha0, hnc, hc0, hcell⟩ := hr
  cases e
  have c1 : n0 ≤ 9223372036854775807 := by unfold maxLen at hc0; omega
  obtain ⟨bx, hbx⟩ : ∃ bx, W.heap.size = bx := ⟨_, rfl⟩
  go_enter Tryz.func3, Tryz.ntmps3
  go_wp2_with fail
  refine (hnw _ h0).mono ?_
  rintro y w1 ⟨p, rfl, h1⟩
  have h1 : Sat W (disk p 1048576 [] :: pt W.heap.size (.cells #[.int .i64 x0, .int .i64 x1] 23) :: []) w1 := h1
  rw [hbx] at h1
  have b0 : w1.cell? ⟨bx, 0, none⟩ = some (.int .i64 x0) := h1.swap.pt_cell 0
  go_wp2_with fail
  refine (pwOpen (D := []) (pre := [119]) (most := most) hE (by decide) hm1 hm2 (by simp) (by omega) h1).mono ?_
  rintro y w2 hy
  obtain ⟨q, rfl, h2⟩ := open_ok (LastS.zero []).log.open' hy
  clear hy h1 b0 hnw
  go_upto_if 45 with fail
  go_cut [12] (fun v12 wx => ∃ k : Nat, k ≤ n ∧ v12 = .int .i64 (k : Int) ∧ wx = w2)
  case first =>
    by_cases hp0 : 0 < n
    · have q0 : (n : Int) > 0 := by omega
      obtain ⟨u1, hu1⟩ : ∃ u1, sy.tmod ((n : Int) + 1) = u1 := ⟨_, rfl⟩
      have u2 := tmod_bd sy (n := (n : Int) + 1) (by omega)
      rw [hu1] at u2
      obtain ⟨u3, hu3⟩ : ∃ u3, (u1 + (n : Int) + 1).tmod ((n : Int) + 1) = u3 := ⟨_, rfl⟩
      have u4 : 0 ≤ u3 ∧ u3 < (n : Int) + 1 := by
        have h := tmod_bd (u1 + (n : Int) + 1) (n := (n : Int) + 1) (by omega)
        rw [hu3] at h
        refine ⟨?_, h.2⟩
        rw [← hu3, Int.tmod_eq_emod_of_nonneg (by omega)]
        exact Int.emod_nonneg _ (by omega)
      obtain ⟨k, hk⟩ : ∃ k : Nat, u3 = (k : Int) := ⟨u3.toNat, by omega⟩
      go_wp2_with fail
      go_meet
      case rel => exact ⟨k, by omega, rfl, rfl⟩
    · have q0 : ¬ (n : Int) > 0 := by omega
      go_wp2_with fail
      go_meet
      case rel => exact ⟨0, by omega, rfl, rfl⟩
  case rest =>
    obtain ⟨k, hk, rfl, rfl⟩ := hcut
    obtain ⟨ks, hke⟩ : ∃ ks, (cutL 100 keys).take n = ks := ⟨_, rfl⟩
    have hkl : ks.length = n := by rw [← hke, List.length_take, cutL, List.length_map, hkn]; omega
    have hget : ∀ i, i < n → ∃ s, (s : ByteArray).size ≤ 9223372036854775807 ∧ ks[i]? = some (s.data.toList.take 100) ∧ ∃ g o, a = some ⟨g, o, none⟩ ∧ W.cell? ⟨g, o + i, none⟩ = some (.string s) := fun i hi => by
      obtain ⟨s, hs⟩ : ∃ s, keys[i]? = some s := ⟨_, List.getElem?_eq_getElem (by omega)⟩
      refine ⟨s, hks s (List.mem_of_getElem? hs), ?_, hcell i _ (by rw [List.getElem?_map, hs]; rfl)⟩
      rw [← hke, List.getElem?_take, if_pos hi, cutL, List.getElem?_map, hs]; rfl
    have hL0 := LastS.zero ks
    have Hget := Lib.hid hget
    have Hkl := Lib.hid hkl
    have nn1 : (n : Int) ≤ 30 := by omega
    clear hget hkl hke hcell hks hkn h0 ht1 t2 ht3 t4 hmost hsy hx0 hn hmin c0 ha0 hnc hc0 c1 hbx
    go_wp2_with fail
    go_loopg [13] (n + 1) (fun gh v13 wr => ∃ (i : Nat) (D : Fls) (F : List WF), i ≤ n ∧ n + 1 ≤ i + gh ∧ v13 = .int .i64 (i : Int) ∧ LastS ks (if k < i then k else 0) i D F ∧ Sat W (wal q p [119] most F :: disk p 1048576 D :: pt bx (.cells #[.int .i64 x0, .int .i64 x1] 23) :: []) wr)
    case atStart => exact ⟨0, [], [], by omega, by omega, rfl, by simpa using hL0, h2⟩
    case round =>
      obtain ⟨i, D, F, hi1, hi2, rfl, hL, h3⟩ := hrel
      clear hL0 h2
      by_cases hi : i < n
      · obtain ⟨s, hsz, hkr, g, o, rfl, hcl⟩ := Hget.out i hi
        have Hcw : Hid (∀ (L' : List HP) w', Sat W L' w' → w'.cell? ⟨g, o + i, none⟩ = some (.string s)) := Lib.hid fun L' w' h' => by rw [h'.old_cell (block_lt_of_cell hcl)]; exact hcl
        have hc := Hcw.out _ _ h3
        have hi3 : (i : Int) < (n : Int) := by omega
        have hcu := fun w' => pcut (w := w') s 100 (by omega)
        obtain ⟨r, hre⟩ : ∃ r, s.data.toList.take 100 = r := ⟨_, rfl⟩
        have hrl : r.length ≤ 100 := by rw [← hre, List.length_take]; omega
        rw [hre] at hkr hcu
        have Hkr := Lib.hid hkr
        clear hre hkr hcl
        by_cases hik : i = k
        · subst hik
          rw [if_neg (Nat.lt_irrefl _)] at hL
          have hL1 := hL.sync i
          obtain ⟨D2, F2, hL2, hap⟩ := app_ok (L := pt bx (.cells #[.int .i64 x0, .int .i64 x1] 23) :: []) (q := q) (p := p) hE hL1 hm1 hm2 Hkr.out hrl (by omega) (Nat.le_refl _)
          have hsy := pwSync hE h3
          clear hL hL1
          go_wp2_with (first
            | (go_at_call 9; refine hsy.mono ?_; rintro y w4 ⟨rfl, h4⟩; have c4 := Hcw.out _ _ h4)
            | (go_at_call 11; refine (hcu _).mono ?_; rintro y w5 ⟨rfl, rfl⟩)
            | (go_at_call 10; refine (hap _ h4).mono ?_; rintro y w6 ⟨rfl, h6⟩))
          go_roundg (gk - 1)
          case measure => omega
          case rel => exact ⟨i + 1, D2, F2, by omega, by omega, by go_num, by rw [if_pos (Nat.lt_succ_self i)]; exact hL2, h6⟩
        · have hik2 : ¬ ((i : Int) = (k : Int)) := by omega
          obtain ⟨D2, F2, hL2, hap⟩ := app_ok (L := pt bx (.cells #[.int .i64 x0, .int .i64 x1] 23) :: []) (q := q) (p := p) hE hL hm1 hm2 Hkr.out hrl (by omega) (by split <;> omega)
          clear hL
          go_wp2_with (first
            | (go_at_call 11; refine (hcu _).mono ?_; rintro y w5 ⟨rfl, rfl⟩)
            | (go_at_call 10; refine (hap _ h3).mono ?_; rintro y w6 ⟨rfl, h6⟩))
          go_roundg (gk - 1)
          case measure => omega
          case rel => exact ⟨i + 1, D2, F2, by omega, by omega, by go_num, by
            by_cases hki : k < i
            · rw [if_pos hki] at hL2; rw [if_pos (by omega)]; exact hL2
            · rw [if_neg hki] at hL2; rw [if_neg (by omega)]; exact hL2, h6⟩
      · obtain rfl : i = n := by omega
        have hni : ¬ (i : Int) < (i : Int) := by omega
        go_upto_region 15 with fail
        go_cut [86] (fun v86 wx => v86 = .bool false ∧ ∃ D', LastS ks k i D' F ∧ Sat W (wal q p [119] most F :: disk p 1048576 D' :: pt bx (.cells #[.int .i64 x0, .int .i64 x1] 23) :: []) wx)
        case first =>
          by_cases hkn : k = i
          · subst hkn
            have hsy := pwSync hE h3
            go_wp2_with (go_at_call 9; refine hsy.mono ?_; rintro y w4 ⟨rfl, h4⟩)
            go_meet
            case rel => exact ⟨rfl, _, hL.sync k, h4⟩
          · have hkn2 : ¬ ((k : Int) = (i : Int)) := by omega
            go_wp2_with fail
            go_meet
            case rel => exact ⟨rfl, D, by rw [if_pos (by omega)] at hL; exact hL, h3⟩
        case rest =>
          obtain ⟨rfl, D1, hL1, h4⟩ := hcut
          clear hL h3
          have h5 : Sat W (row 3 1 (.slice none 0 0) 0 (ints64 (List.replicate 0 x1)) :: wal q p [119] most F :: disk p 1048576 D1 :: pt bx (.cells #[.int .i64 x0, .int .i64 x1] 23) :: []) wc := Sat.row_nil h4 _ _
          go_wp2_with fail
          go_loopg [14, 15] 41 (fun gh v14 v15 wr => ∃ j : Nat, j ≤ 40 ∧ 41 ≤ j + gh ∧ v15 = .int .i64 (j : Int) ∧ Sat W (row 3 1 v14 j (ints64 (List.replicate j x1)) :: wal q p [119] most F :: disk p 1048576 D1 :: pt bx (.cells #[.int .i64 x0, .int .i64 x1] 23) :: []) wr)
          case atStart => exact ⟨0, by omega, by omega, rfl, h5⟩
          case round =>
            obtain ⟨j, hj1, hj2, rfl, h6⟩ := hrel
            clear h5 h4
            by_cases hj : j < 40
            · have b1 : wr.cell? ⟨bx, 1, none⟩ = some (.int .i64 x1) := h6.p3.pt_cell 1
              have h7 := (h6.alloc (.cells #[.int .i64 x1] 3)).swap
              have b4 : j + 1 ≤ maxLen := by unfold maxLen; omega
              have b5 : (j + 1) * 8 ≤ 140737488355328 := by omega
              have hj3 : (j : Int) < 40 := by omega
              go_wp2_with (at_builtin; refine wpList_append_row rfl intElem64 (.tmp 91) (.tmp 94) rfl _ _ j 1 (ints64 (List.replicate j x1)) [.int .i64 x1] rfl rfl h7 (reads_new _ _ rfl (by omega)) rfl (by simp [Value.oneCell']) b4 b5 ?_; intro a' c' w8 h8; go_frame)
              go_roundg (gk - 1)
              case measure => omega
              case rel =>
                refine ⟨j + 1, by omega, by omega, by go_num, ?_⟩
                have h8 : Sat W (row 3 1 (.slice _ (j + 1) _) (j + 1) (ints64 (List.replicate j x1) ++ [.int .i64 x1]) :: _ :: wal q p [119] most F :: disk p 1048576 D1 :: pt bx (.cells #[.int .i64 x0, .int .i64 x1] 23) :: []) _ := ‹_›
                rw [List.replicate_succ', show ints64 (List.replicate j x1 ++ [x1]) = ints64 (List.replicate j x1) ++ [.int .i64 x1] by simp [ints64]]
                exact h8.swap.drop
            · obtain rfl : j = 40 := by omega
              have hcr := pdCrash (B := W) (kv := u14) (keep := List.replicate 40 x1) (L := row 3 1 u14 40 (ints64 (List.replicate 40 x1)) :: wal q p [119] most F :: pt bx (.cells #[.int .i64 x0, .int .i64 x1] 23) :: []) (p := p) (D := D1) (fun X w' h' => by rw [List.length_replicate]; exact h'.swap.row_reads) h6.p2 (by have := hL1.dlen; omega) (by have := hL1.used; omega)
              have hdl : (crashD (List.replicate 40 x1) 0 D1).length ≤ 1000000 := by rw [crash_len]; have := hL1.dlen; omega
              obtain ⟨D2, F2, jj, e2, g1, g2, g3, g4, g5, g6, g7, g8⟩ := hL1.crash hn30 Hkl.out.symm hk (List.replicate 40 x1)
              clear hL1 h6
              go_wp2_with fail
              refine hcr.mono ?_
              rintro y w5 ⟨rfl, h7⟩
              have h8 := h7.swap.drop.swap.drop.swap.drop
              go_wp2_with fail
              refine (pwOpen (pre := [119]) (most := most) hE (by decide) hm1 hm2 hdl (by omega) h8).mono ?_
              rintro y w6 hy
              obtain ⟨q2, rfl, h9⟩ := open_ok e2 hy
              obtain ⟨nx, hnx⟩ : ∃ nx, nextW F2 = nx := ⟨_, rfl⟩
              have hnx2 : nx = 1 + jj := by omega
              have hfi := pwFirst h9
              rw [g5] at hfi
              have hne := fun w' (h' : Sat W (wal q2 p [119] most F2 :: disk p 1048576 D2 :: []) w') => pwNext h'
              rw [hnx] at hne
              have z1 : ¬ ((nx : Int) < (k : Int) + 1) := by omega
              have z2 : ¬ ((nx : Int) > (i : Int) + 1) := by omega
              have z3 : (nx : Int) ≤ 31 := by omega
              have hgt : ∀ m, 1 ≤ m → m < nx → ∃ r, ks[m - 1]? = some r ∧ getV F2 m = .tuple #[.string (bA r), .int .i64 0] := fun m h1 h2 => by
                obtain ⟨r, hr1, hr2⟩ := last_get g1 g2 g5 (by have := Hkl.out; omega) h1 (by omega)
                exact ⟨r, hr1, by rw [getV, hr2]⟩
              obtain ⟨D3, F3, e3, m1, m2⟩ := last_more (most := most) (r := [109, 111, 114, 101]) g1 hm1 (by decide) (by simp; omega) (by omega)
              have hap : ∀ w', Sat W (wal q2 p [119] most F2 :: disk p 1048576 D2 :: []) w' → Calls Tryz.prog 10 #[.pointer (some ⟨q2, 0, none⟩), .string ⟨#[109, 111, 114, 101]⟩] w' fun y w'' => y = .returned (.int .i64 0) ∧ Sat W (wal q2 p [119] most F3 :: disk p 1048576 D3 :: []) w'' := fun w' h' => by
                have hap := pwAppend (r := [109, 111, 114, 101]) hE (by decide) hm2 (by omega) (fun f hf => by have := g1.fsize hf; omega) (by omega) h'
                unfold AppPost at hap
                rw [e3] at hap
                exact hap
              rw [hnx] at m1 m2
              have hgm : getV F3 nx = .tuple #[.string ⟨#[109, 111, 114, 101]⟩, .int .i64 0] := by rw [getV, m2]
              have hsy := fun w' (h' : Sat W (wal q2 p [119] most F3 :: disk p 1048576 D3 :: []) w') => pwSync hE h'
              have hn3 := fun w' (h' : Sat W (wal q2 p [119] most F3 :: disk p 1048576 (syncW D3 [119] F3) :: []) w') => pwNext h'
              have hg3 := fun w' (h' : Sat W (wal q2 p [119] most F3 :: disk p 1048576 (syncW D3 [119] F3) :: []) w') => pwGet nx (by omega) h'
              rw [m1] at hn3
              rw [hgm] at hg3
              have Hgt := Lib.hid hgt
              have Hnx2 := Lib.hid hnx2
              clear hy h7 h8 hcr hgt m1 m2 hgm e2 e3 g1 g2 g3 g4 g5 g6 g7 g8 hnx hnx2 hdl
              go_wp2_with (first
                | (go_at_call 13; refine hfi.mono ?_; rintro y w7 ⟨rfl, rfl⟩)
                | (go_at_call 14; first
                    | (refine (hne _ h9).mono ?_; rintro y w8 ⟨rfl, k8, rfl⟩; have h10 := h9.drewN k8)
                    | (refine (hne _ h10).mono ?_; rintro y w9 ⟨rfl, k9, rfl⟩; have h11 := h10.drewN k9)))
              have hnxp : 1 ≤ nx := by have := Hnx2.out; omega
              go_loopg [16] (nx + 1) (fun gh v16 wr => ∃ m : Nat, m + 1 ≤ nx ∧ nx ≤ m + gh ∧ v16 = .int .u64 ((m : Int) + 1) ∧ Sat W (wal q2 p [119] most F2 :: disk p 1048576 D2 :: []) wr)
              case atStart => exact ⟨0, by omega, by omega, rfl, h9.drewN (k8 + k9)⟩
              case round =>
                obtain ⟨m, n1, n2, rfl, h12⟩ := hrel
                clear h9 h10 h11 hfi
                by_cases hm : m + 1 < nx
                · obtain ⟨r, hkr, hgv⟩ := Hgt.out (m + 1) (by omega) hm
                  rw [Nat.add_sub_cancel] at hkr
                  have hmi : m < i := by
                    have := (List.getElem?_eq_some_iff.1 hkr).1
                    have := Hkl.out; omega
                  obtain ⟨s, hsz, hks2, g, o, rfl, hcl⟩ := Hget.out m hmi
                  rw [hkr] at hks2
                  have hrs := Option.some.inj hks2
                  have hge : ∀ w', Sat W (wal q2 p [119] most F2 :: disk p 1048576 D2 :: []) w' → Calls Tryz.prog 15 #[.pointer (some ⟨q2, 0, none⟩), .int .u64 ((m : Int) + 1)] w' fun y w'' => y = .returned (.tuple #[.string (bA r), .int .i64 0]) ∧ Dr w' w'' := fun w' h' => by
                    have := pwGet (m + 1) (by omega) h'
                    rw [hgv] at this
                    exact this
                  have hcu := fun w' => pcut (w := w') s 100 (by omega)
                  rw [← hrs] at hcu
                  have Hcw : Hid (∀ (L' : List HP) w', Sat W L' w' → w'.cell? ⟨g, o + m, none⟩ = some (.string s)) := Lib.hid fun L' w' h' => by rw [h'.old_cell (block_lt_of_cell hcl)]; exact hcl
                  have z4 : (m : Int) + 1 < (nx : Int) := by omega
                  have z5 : (m : Int) < (n0 : Int) := by omega
                  clear hkr hgv hks2 hrs hcl
                  go_wp2_with (first
                    | (go_at_call 14; refine (hne _ h12).mono ?_; rintro y w8 ⟨rfl, k8, rfl⟩; have h13 := h12.drewN k8)
                    | (go_at_call 15; refine (hge _ h13).mono ?_; rintro y w9 ⟨rfl, k9, rfl⟩; have h14 := h13.drewN k9; have c9 := Hcw.out _ _ h12)
                    | (go_at_call 11; refine (hcu _).mono ?_; rintro y w5 ⟨rfl, rfl⟩))
                  go_roundg (gk - 1)
                  case measure => omega
                  case rel => exact ⟨m + 1, by omega, by omega, by go_num, h12.drewN (k8 + k9)⟩
                · obtain rfl : nx = m + 1 := by omega
                  have z4 : ¬ (m : Int) + 1 < (m : Int) + 1 := by omega
                  rw [show (((m + 1 : Nat) : Int)) = (m : Int) + 1 by simp] at hne hg3
                  rw [show ((((m + 1) + 1 : Nat) : Int)) = (m : Int) + 1 + 1 by simp] at hn3
                  clear z1 z2 z3
                  have z5 : (m : Int) ≤ 31 := by omega
                  have hwk := known_walk
                  go_wp2_with (go_at_call 14; refine (hne _ h12).mono ?_; rintro y w8 ⟨rfl, k8, rfl⟩)
                  have h13 := h12.drewN k8
                  go_wp2_with (first
                    | (go_at_call 10; refine (hap _ h14).mono ?_; rintro y w10 ⟨rfl, h15⟩)
                    | (go_at_call 9; refine (hsy _ h15).mono ?_; rintro y w11 ⟨rfl, h16⟩)
                    | (go_at_call 14; first
                        | (refine (hne _ h13).mono ?_; rintro y w9 ⟨rfl, k9, rfl⟩; have h14 := h12.drewN (k8 + k9))
                        | (refine (hn3 _ h16).mono ?_; rintro y w12 ⟨rfl, k12, rfl⟩; have h17 := h16.drewN k12))
                    | (go_at_call 15; refine (hg3 _ h17).mono ?_; rintro y w13 ⟨rfl, k13, rfl⟩; have h18 := h16.drewN (k12 + k13))
                    | (go_at_call 16; refine (hwk _).mono ?_; rintro y w14 ⟨rfl, hb⟩))
                  go_ret
                  exact ⟨rfl, (h18.of_below hb).below⟩
end Go.Proofs.YtdngjkjoahgelaaGreatDoor
