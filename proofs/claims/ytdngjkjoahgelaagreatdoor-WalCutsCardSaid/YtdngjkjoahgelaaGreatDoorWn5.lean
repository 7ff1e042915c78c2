/-
  WalCuts: the law's walk.
-/
import Derived.Test.YtdngjkjoahgelaaGreatDoorWn3
import Derived.Test.YtdngjkjoahgelaaGreatDoorWc3
import Derived.Test.YtdngjkjoahgelaaGreatDoorWc4
namespace Go.Proofs.YtdngjkjoahgelaaGreatDoor
set_option linter.all false
set_option maxRecDepth 100000
set_option maxHeartbeats 4000000
open Go.RowKit
theorem u64_in {z : Int} (h : (Lit.int .u64 z).wf = true) : 0 ≤ z ∧ z ≤ 18446744073709551615 := by
  simpa [Lit.wf, IntKind.wrap, IntKind.min, IntKind.max, IntKind.signed, IntKind.bits] using h
theorem walCuts_walk (W : World) (hE : Env W) (keys : List ByteArray) (a : Option Addr) (n0 c0 : Nat) (hkn : keys.length = n0) (hks : ∀ s ∈ keys, s.size ≤ 9223372036854775807) (hr : reads W (.slice a n0 c0) n0 (keys.map Value.string)) (zf zt : Int)
    (hzf : 0 ≤ zf ∧ zf ≤ 18446744073709551615) (hzt : 0 ≤ zt ∧ zt ≤ 18446744073709551615) :
    Calls Tryz.prog 5 #[.slice a n0 c0, .int .u64 zf, .int .u64 zt] W fun y w' => y = .returned (.bool true) ∧ Below W.heap.size W w' := by
  obtain ⟨fr, rfl⟩ := Int.eq_ofNat_of_zero_le hzf.1
  obtain ⟨tn, rfl⟩ := Int.eq_ofNat_of_zero_le hzt.1
  have h0 := Sat.start W
  obtain ⟨n, hn⟩ : ∃ n, min n0 30 = n := ⟨_, rfl⟩
  have hn30 : n ≤ 30 := by omega
  have hnn : n ≤ n0 := by omega
  have hmin : min (n0 : Int) 30 = (n : Int) := by omega
  obtain ⟨t1, ht1⟩ : ∃ t1, fr % 97 = t1 := ⟨_, rfl⟩
  obtain ⟨at_, hat⟩ : ∃ x, fr % 40 = x := ⟨_, rfl⟩
  obtain ⟨tf, htf⟩ : ∃ x, tn % 40 = x := ⟨_, rfl⟩
  have u1 : (fr : Int).tmod 97 = (t1 : Int) := by rw [Int.tmod_eq_emod_of_nonneg (by omega)]; omega
  have u2 : (fr : Int).tmod 40 = (at_ : Int) := by rw [Int.tmod_eq_emod_of_nonneg (by omega)]; omega
  have u3 : (tn : Int).tmod 40 = (tf : Int) := by rw [Int.tmod_eq_emod_of_nonneg (by omega)]; omega
  have v1 : (t1 : Int) < 97 := by omega
  have v2 : (at_ : Int) < 40 := by omega
  have v3 : (tf : Int) < 40 := by omega
  have e1 : IntKind.u64.wrap (t1 : Int) = (t1 : Int) := by rw [IntKind.wrap_u64]; omega
  have e2 : IntKind.u64.wrap (at_ : Int) = (at_ : Int) := by rw [IntKind.wrap_u64]; omega
  have e3 : IntKind.u64.wrap (tf : Int) = (tf : Int) := by rw [IntKind.wrap_u64]; omega
  have e4 : IntKind.i64.wrap (t1 : Int) = (t1 : Int) := wraps_i64' _ (by omega) (by omega)
  obtain ⟨most, hmost⟩ : ∃ most : Nat, 1 + (t1 : Int) = (most : Int) := ⟨1 + t1, by omega⟩
  have hm1 : 1 ≤ most := by omega
  have hm2 : most ≤ 9223372036854775807 := by omega
  have hnw := pdNew (L := []) 1048576 (by omega) h0
  have c0 := hr
  obtain ⟨_, _, e, ha0, hnc, hc0, hcell⟩ := hr
  cases e
  have c1 : n0 ≤ 9223372036854775807 := by unfold maxLen at hc0; omega
  obtain ⟨ks, hke⟩ : ∃ ks, (cutL 60 keys).take n = ks := ⟨_, rfl⟩
  have hkl : ks.length = n := by rw [← hke, List.length_take, cutL, List.length_map, hkn]; omega
  have hget : ∀ i, i < n → ∃ s, (s : ByteArray).size ≤ 9223372036854775807 ∧ ks[i]? = some (s.data.toList.take 60) ∧ ∃ g o, a = some ⟨g, o, none⟩ ∧ W.cell? ⟨g, o + i, none⟩ = some (.string s) := fun i hi => by
    obtain ⟨s, hs⟩ : ∃ s, keys[i]? = some s := ⟨_, List.getElem?_eq_getElem (by omega)⟩
    refine ⟨s, hks s (List.mem_of_getElem? hs), ?_, hcell i _ (by rw [List.getElem?_map, hs]; rfl)⟩
    rw [← hke, List.getElem?_take, if_pos hi, cutL, List.getElem?_map, hs]; rfl
  have hL0 := LastS.zero ks
  have Hget := Lib.hid hget
  have Hkl := Lib.hid hkl
  have nn1 : (n : Int) ≤ 30 := by omega
  have nn2 : IntKind.u64.wrap (n : Int) = (n : Int) := by rw [IntKind.wrap_u64]; omega
  have Htf := Lib.hid (show tf < 40 by omega)
  have Hat := Lib.hid (show at_ < 40 by omega)
  clear hget hkl hke hcell hks hkn ht1 hat htf hzf hzt c0 ha0 hnc hc0 hn
  go_enter Tryz.func5, Tryz.ntmps5
  go_wp2_with fail
  refine hnw.mono ?_
  rintro y w1 ⟨p, rfl, h1⟩
  go_wp2_with fail
  refine (pwOpen (D := []) (pre := [119]) (most := most) hE (by decide) hm1 hm2 (by simp) (by omega) h1).mono ?_
  rintro y w2 hy
  obtain ⟨q, rfl, h2⟩ := open_ok (LastS.zero []).log.open' hy
  clear hy h1 hnw hmost
  go_wp2_with fail
  go_loopg [12] (n + 1) (fun gh v12 wr => ∃ (i : Nat) (D : Fls) (F : List WF), i ≤ n ∧ n + 1 ≤ i + gh ∧ v12 = .int .i64 (i : Int) ∧ LastS ks 0 i D F ∧ Sat W (wal q p [119] most F :: disk p 1048576 D :: []) wr)
  case atStart => exact ⟨0, [], [], by omega, by omega, rfl, hL0, h2⟩
  case round =>
    obtain ⟨i, D, F, hi1, hi2, rfl, hL, h3⟩ := hrel
    clear hL0 h2 h0
    by_cases hi : i < n
    · obtain ⟨s, hsz, hkr, g, o, rfl, hcl⟩ := Hget.out i hi
      have Hcw : Hid (∀ (L' : List HP) w', Sat W L' w' → w'.cell? ⟨g, o + i, none⟩ = some (.string s)) := Lib.hid fun L' w' h' => by rw [h'.old_cell (block_lt_of_cell hcl)]; exact hcl
      have hc := Hcw.out _ _ h3
      have hi3 : (i : Int) < (n : Int) := by omega
      have hcu := fun w' => pcut (w := w') s 60 (by omega)
      obtain ⟨r, hre⟩ : ∃ r, s.data.toList.take 60 = r := ⟨_, rfl⟩
      have hrl : r.length ≤ 100 := by rw [← hre, List.length_take]; omega
      rw [hre] at hkr hcu
      have Hkr := Lib.hid hkr
      obtain ⟨D2, F2, hL2, hap⟩ := app_ok (L := []) (q := q) (p := p) hE hL hm1 hm2 Hkr.out hrl (by omega) (by omega)
      clear hre hkr hcl hL
      go_wp2_with (first
        | (go_at_call 11; refine (hcu _).mono ?_; rintro y w5 ⟨rfl, rfl⟩)
        | (go_at_call 10; refine (hap _ h3).mono ?_; rintro y w6 ⟨rfl, h6⟩))
      go_roundg (gk - 1)
      case measure => omega
      case rel => exact ⟨i + 1, D2, F2, by omega, by omega, by go_num, hL2, h6⟩
    · obtain rfl : i = n := by omega
      have hni : ¬ (i : Int) < (i : Int) := by omega
      obtain ⟨D1, F1, first, ed, hd⟩ := hL.dropped Hkl.out.symm hn30 tf
      obtain ⟨e, D2, F2, next, ec, hc, hcase⟩ := hd.cut at_
      have hsy := pwSync hE h3
      have hdp : ∀ w', Sat W (wal q p [119] most F :: disk p 1048576 (syncW D [119] F) :: []) w' → Calls Tryz.prog 20 #[.pointer (some ⟨q, 0, none⟩), .int .u64 (tf : Int)] w' fun y w'' => y = .returned (.int .i64 0) ∧ Sat W (wal q p [119] most F1 :: disk p 1048576 D1 :: []) w'' := fun w' h' => by
        have := pwDrop hE tf (by omega) h'
        rw [ed] at this
        exact this
      have hfi : ∀ w', Sat W (wal q p [119] most F1 :: disk p 1048576 D1 :: []) w' → Calls Tryz.prog 13 #[.pointer (some ⟨q, 0, none⟩)] w' fun y w'' => y = .returned (.int .u64 (first : Int)) ∧ w'' = w' := fun w' h' => by
        have := pwFirst h'
        rw [hd.firstE] at this
        exact this
      have hcu : ∀ w', Sat W (wal q p [119] most F1 :: disk p 1048576 D1 :: []) w' → Calls Tryz.prog 21 #[.pointer (some ⟨q, 0, none⟩), .int .u64 (at_ : Int)] w' fun y w'' => y = .returned (.int .i64 e) ∧ Sat W (wal q p [119] most F2 :: disk p 1048576 D2 :: []) w'' := fun w' h' => by
        have := pwCut (fr := at_) hE hd.log.chain hd.log.recs (by have := Hat.out; omega) h'
        unfold CutPost at this
        rw [ec] at this
        exact this
      have f1 : (1 : Int) ≤ (first : Int) := by have := hd.one; omega
      obtain ⟨mx, hmx⟩ : ∃ mx, max tf 1 = mx := ⟨_, rfl⟩
      have f2 : max (tf : Int) 1 = (mx : Int) := by omega
      have f3 : (first : Int) ≤ (mx : Int) := by have := hd.most; omega
      have f4 : ¬ (first : Int) > (mx : Int) := by omega
      have f5 : ¬ (first : Int) < 1 := by omega
      have f6 : (first : Int) < 41 := by have := hd.most; have := Htf.out; omega
      have Hcase := Lib.hid hcase
      have Hc := Lib.hid hc
      have Hfirst := Lib.hid hd.one
      clear hL hi2 hmx hd hc ed ec hcase
      go_upto_if 84 with (first
        | (go_at_call 9; refine hsy.mono ?_; rintro y w4 ⟨rfl, h4⟩)
        | (go_at_call 20; refine (hdp _ h4).mono ?_; rintro y w5 ⟨rfl, h5⟩)
        | (go_at_call 13; refine (hfi _ h5).mono ?_; rintro y w6 ⟨rfl, rfl⟩)
        | (go_at_call 21; refine (hcu _ h5).mono ?_; rintro y w7 ⟨rfl, h7⟩))
      go_cut [16] (fun v16 wx => v16 = .int .u64 (next : Int) ∧ Sat W (wal q p [119] most F2 :: disk p 1048576 D2 :: []) wx)
      case first =>
        rcases Hcase.out with ⟨g1, rfl, rfl⟩ | ⟨g1, rfl, hnx⟩
        · have g2 : (at_ : Int) < (first : Int) := by omega
          go_wp2_with fail
          go_meet
          case rel => exact ⟨by simp, h7⟩
        · have g2 : ¬ (at_ : Int) < (first : Int) := by omega
          have g3 : min ((i : Int) + 1) (at_ : Int) = (next : Int) := by omega
          clear hnx
          go_wp2_with fail
          go_meet
          case rel => exact ⟨rfl, h7⟩
      case rest =>
        obtain ⟨rfl, h8⟩ := hcut
        have hc := Hc.out
        have hcr := pdCrash (B := W) (kv := .slice none 0 0) (keep := []) (L := wal q p [119] most F2 :: []) (p := p) (D := D2) (fun X w' h' => ⟨none, 0, rfl, fun _ => ⟨rfl, rfl⟩, Nat.le_refl _, Nat.zero_le _, fun j u e => by cases e⟩) h8.swap (by have := hc.dlen0; omega) (by have := hc.used; omega)
        have hdl : (crashD [] 0 D2).length ≤ 1000000 := by have := hc.dlen; omega
        have e2 := hc.op
        have hF1 := hc.firstE
        have hF2 := hc.nextE
        have Hhere := Lib.hid hc.here
        have Hgone := Lib.hid hc.gone
        have Hn41 : Hid (next ≤ i + 1) := Lib.hid (by rcases Hcase.out with ⟨_, _, h⟩ | ⟨_, _, h⟩ <;> omega)
        clear hc Hcase hdp hfi hcu hsy h3 f2 f3 f4 f5 Hc
        go_wp2_with fail
        refine hcr.mono ?_
        rintro y w5 ⟨rfl, h9⟩
        have h10 := h9.swap.drop
        go_wp2_with fail
        refine (pwOpen (pre := [119]) (most := most) hE (by decide) hm1 hm2 hdl (by omega) h10).mono ?_
        rintro y w6 hy
        obtain ⟨q2, rfl, h11⟩ := open_ok e2 hy
        have hfi := pwFirst h11
        have hne := pwNext h11
        rw [hF1] at hfi
        rw [hF2] at hne
        have hge : ∀ m : Nat, m < 40 → ∀ w', Sat W (wal q2 p [119] most F2 :: disk p 1048576 (crashD [] 0 D2) :: []) w' → Calls Tryz.prog 15 #[.pointer (some ⟨q2, 0, none⟩), .int .u64 (m : Int)] w' fun y w'' => y = .returned (getV F2 m) ∧ Dr w' w'' := fun m hm w' h' => pwGet m (by omega) h'
        clear hcr hdl hF1 hF2 hy h9 h10 e2 h8
        go_wp2_with (first
          | (go_at_call 13; refine hfi.mono ?_; rintro y w7 ⟨rfl, rfl⟩)
          | (go_at_call 14; refine hne.mono ?_; rintro y w8 ⟨rfl, k8, rfl⟩))
        have h12 := h11.drewN k8
        go_loopg [17] 41 (fun gh v17 wr => ∃ m : Nat, m ≤ 40 ∧ 41 ≤ m + gh ∧ v17 = .int .u64 (m : Int) ∧ Sat W (wal q2 p [119] most F2 :: disk p 1048576 (crashD [] 0 D2) :: []) wr)
        case atStart => exact ⟨0, by omega, by omega, rfl, h12⟩
        case round =>
          obtain ⟨m, n1, n2, rfl, h13⟩ := hrel
          clear h11 h12 hfi hne
          by_cases hm : m < 40
          · have z1 : (m : Int) < 40 := by omega
            by_cases hin : first ≤ m ∧ m < next
            · obtain ⟨r, hkr, hgv⟩ := Hhere.out m hin.1 hin.2
              obtain ⟨m', rfl⟩ : ∃ m', m = m' + 1 := ⟨m - 1, by have := Hfirst.out; omega⟩
              rw [Nat.add_sub_cancel] at hkr
              have hmi : m' < i := by have := Hn41.out; omega
              obtain ⟨s, hsz, hks2, g, o, rfl, hcl⟩ := Hget.out m' hmi
              rw [hkr] at hks2
              have hrs := Option.some.inj hks2
              have hg := hge (m' + 1) hm _ h13
              rw [getV, hgv] at hg
              have hcu := fun w' => pcut (w := w') s 60 (by omega)
              rw [← hrs] at hcu
              have Hcw : Hid (∀ (L' : List HP) w', Sat W L' w' → w'.cell? ⟨g, o + m', none⟩ = some (.string s)) := Lib.hid fun L' w' h' => by rw [h'.old_cell (block_lt_of_cell hcl)]; exact hcl
              have c9 := Hcw.out _ _ h13
              have z2 : ¬ ((m' : Int) + 1 < (first : Int)) := by omega
              have z3 : ¬ ((m' : Int) + 1 ≥ (next : Int)) := by omega
              have z4 : (m' : Int) < (n0 : Int) := by omega
              have z6 : ((m' + 1 : Nat) : Int) = (m' : Int) + 1 := by omega
              rw [z6] at hg z1
              clear hkr hgv hks2 hrs hcl hin hge z6
              go_wp2_with (first
                | (go_at_call 15; refine hg.mono ?_; rintro y w9 ⟨rfl, k9, rfl⟩)
                | (go_at_call 11; refine (hcu _).mono ?_; rintro y w10 ⟨rfl, rfl⟩))
              go_roundg (gk - 1)
              case measure => omega
              case rel => exact ⟨m' + 1 + 1, by omega, by omega, by go_num, h13.drewN k9⟩
            · have hgv := Hgone.out m hin
              have hg := hge m hm _ h13
              rw [getV, hgv] at hg
              by_cases hlo : m < first
              · have z2 : (m : Int) < (first : Int) := by omega
                clear hgv hin hge
                go_wp2_with (go_at_call 15; refine hg.mono ?_; rintro y w9 ⟨rfl, k9, rfl⟩)
                go_roundg (gk - 1)
                case measure => omega
                case rel => exact ⟨m + 1, by omega, by omega, by go_num, h13.drewN k9⟩
              · have z2 : ¬ (m : Int) < (first : Int) := by omega
                have z3 : (m : Int) ≥ (next : Int) := by omega
                have z4 : (next : Int) ≤ (m : Int) := by omega
                clear hgv hin hge
                go_wp2_with (go_at_call 15; refine hg.mono ?_; rintro y w9 ⟨rfl, k9, rfl⟩)
                go_roundg (gk - 1)
                case measure => omega
                case rel => exact ⟨m + 1, by omega, by omega, by go_num, h13.drewN k9⟩
          · obtain rfl : m = 40 := by omega
            have hwk := known_walk
            clear hge
            go_wp2_with (go_at_call 16; refine (hwk _).mono ?_; rintro y w14 ⟨rfl, hb⟩)
            go_ret
            exact ⟨rfl, (h13.of_below hb).below⟩
end Go.Proofs.YtdngjkjoahgelaaGreatDoor
