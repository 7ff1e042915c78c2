/-
  NetPlays: the walk.
-/
import Derived.Test.YtgccdndlpjbkhaaPlays0
import Derived.Deep.DeepCutAuto
import Derived.Deep.CutBlock
namespace Go.Proofs.Ytgccdndlpjbkhaa
open Go.RowKit

/-- An act that came in: its numbers, its list's place and packets. -/
structure ActV where
  what : Int
  place : Int
  many : Int
  la : Option Addr
  ln : Nat
  lc : Nat
  ps : List Pk
def acells (x : ActV) : List Value := [.int .i64 x.what, .int .i64 x.place, .int .i64 x.many, .slice x.la x.ln x.lc]
theorem acells_get (xs : List ActV) (k : Nat) (h : k < xs.length) : ∀ j u, (acells xs[k])[j]? = some u → (xs.flatMap acells)[k * 4 + j]? = some u := by
  induction xs generalizing k with
  | nil => simp at h
  | cons x xs ih =>
    intro j u hu
    cases k with
    | zero =>
      simp only [List.flatMap_cons, Nat.zero_mul, Nat.zero_add]
      rw [List.getElem?_append_left]
      · exact hu
      · exact (List.getElem?_eq_some_iff.1 hu).1
    | succ k =>
      simp only [List.flatMap_cons]
      rw [List.getElem?_append_right (by simp [acells]; omega)]
      have : (k + 1) * 4 + j - (acells x).length = k * 4 + j := by simp [acells]; omega
      rw [this]
      exact ih k (by simpa using h) j u (by simpa using hu)

/-- The acts that came in. -/
def ActsIn (B : World) (la : Option Addr) (n lc : Nat) (xs : List ActV) : Prop :=
  xs.length = n ∧ reads B (.slice la n lc) n (xs.flatMap acells) ∧ ∀ x ∈ xs, x.ps.length = x.ln ∧ reads B (.slice x.la x.ln x.lc) x.ln (pks x.ps)

/-- The two: the net and the document's list. -/
def both (b : Nat) (a : Option Addr) (N c : Nat) (ps : List Pk) (L : List HP) : List HP := net b ps :: row 27 3 (.slice a N c) N (pks ps) :: L

set_option maxRecDepth 100000 in
set_option maxHeartbeats 4000000 in
theorem plays_law (B : World) (la : Option Addr) (lc n : Nat) (xs : List ActV) (hin : ActsIn B la n lc xs) :
    Calls Try.prog 5 #[.slice la n lc] B fun e w' => e = .returned (.bool true) ∧ Below B.heap.size B w' := by
  obtain ⟨hxn, hr, hxs⟩ := hin
  obtain ⟨_, hnc, hcm⟩ := reads_len hr
  have Hx := Lib.hid hxn
  have Hxs := Lib.hid hxs
  clear hxn hxs
  go_enter Try.func5, Try.ntmps5
  go_wp2_with fail
  refine (new_net (Sat.start B)).mono ?_
  rintro e w1 ⟨b, rfl, h1⟩
  go_wp2_with fail
  go_loopg [4, 5] n (fun g q i wr => ∃ (k : Nat) (ps : List Pk) (a : Option Addr) (N c : Nat), k + g ≤ n ∧ n ≤ k + g ∧ N ≤ ps.length ∧ ps.length ≤ N ∧ N ≤ 256 ∧ q = .slice a N c ∧ i = .int .i64 k ∧ Sat B (both b a N c ps []) wr)
  case atStart => exact ⟨0, [], none, 0, 0, by omega, by omega, by simp, by simp, by omega, rfl, rfl, (h1.row_nil _ _).swap⟩
  case round =>
    obtain ⟨k, ps, a, N, c, hg1, hg2, hp1, hp2, hN, rfl, rfl, hs⟩ := hrel
    by_cases hmore : k < n ∧ k < 60
    · obtain ⟨hm1, hm2⟩ := hmore
      obtain ⟨x, hx⟩ : ∃ x, xs[k]? = some x := ⟨_, List.getElem?_eq_getElem (by rw [Hx.out]; exact hm1)⟩
      obtain ⟨hk0, hxk⟩ := List.getElem?_eq_some_iff.1 hx
      obtain ⟨hxl, hxr⟩ := Hxs.out x (List.mem_of_getElem? hx)
      have hag := acells_get xs k hk0
      rw [hxk] at hag
      obtain ⟨a', c', hv, h0, _, _, hc⟩ := hr
      cases hv
      obtain ⟨g, off, rfl, hB0⟩ := hc _ _ (hag 0 _ rfl)
      obtain ⟨_, _, e1, hB1⟩ := hc _ _ (hag 1 _ rfl)
      cases e1
      obtain ⟨_, _, e1, hB2⟩ := hc _ _ (hag 2 _ rfl)
      cases e1
      obtain ⟨_, _, e1, hB3⟩ := hc _ _ (hag 3 _ rfl)
      cases e1
      rw [← Nat.add_assoc] at hB0 hB1 hB2 hB3
      rw [Nat.add_zero] at hB0
      have q0 := (hs.old_cell (block_lt_of_cell hB0)).trans hB0
      have q1 := (hs.old_cell (block_lt_of_cell hB1)).trans hB1
      have q2 := (hs.old_cell (block_lt_of_cell hB2)).trans hB2
      have q3 := (hs.old_cell (block_lt_of_cell hB3)).trans hB3
      clear hB0 hB1 hB2 hB3 hag hxk hk0 hx hc h0
      obtain ⟨what, place, many, xa, xn, xc, qs⟩ := x
      dsimp only at hxl hxr q0 q1 q2 q3
      have Hxl := Lib.hid hxl
      clear hxl
      obtain ⟨_, hxnc, hxcm⟩ := reads_len hxr
      go_wp2_with fail
      have h2 := (hs.alloc (.cells #[.int .i64 what, .int .i64 place, .int .i64 many, .slice xa xn xc] 40)).swap
      refine (copy_net h2 (by omega)).mono ?_
      rintro e w2 ⟨b2, rfl, h3⟩
      obtain ⟨t6, ht6⟩ : ∃ t6, wr.heap.size = t6 := ⟨_, rfl⟩
      rw [ht6] at h3 ⊢
      clear h2 ht6 hs q0 q1 q2 q3
      have h4 : Sat B (both b a N c ps [net b2 ps, pt t6 (.cells #[.int .i64 what, .int .i64 place, .int .i64 many, .slice xa xn xc] 40)]) w2 := by
        have := h3.p3.p2
        exact this
      clear h3
      have t0 : w2.cell? ⟨t6, 0, none⟩ = some (.int .i64 what) := h4.p3.pt_cell 0
      go_upto_block 2 with fail
      go_cut [4] (fun q wx => ∃ (ps' : List Pk) (a' : Option Addr) (N' c' : Nat), N' ≤ ps'.length ∧ ps'.length ≤ N' ∧ N' ≤ 256 ∧ q = .slice a' N' c' ∧ Sat B (both b a' N' c' ps' [net b2 ps]) wx)
      case first =>
        obtain rfl : N = ps.length := by omega
        clear hp1 hp2
        by_cases w0 : what = 0
        · subst w0
          go_wp2_with fail
          clear t0
          obtain ⟨mm, em, hmm⟩ : ∃ mm : Int, (if 300 < many then 300 else many) = mm ∧ mm ≤ 300 := ⟨_, rfl, by split <;> omega⟩
          obtain ⟨M, eM, hM⟩ : ∃ M : Int, (if 1 < mm then mm else 1) = M ∧ M ≤ 300 := ⟨_, rfl, by split <;> omega⟩
          go_loopg [8, 9] 301 (fun g v i wr => ∃ (j : Nat) (rs : List Pk) (a2 : Option Addr) (N2 c2 : Nat), j + g ≤ 301 ∧ 301 ≤ j + g ∧ j ≤ 300 ∧ N2 ≤ rs.length ∧ rs.length ≤ N2 ∧ N2 ≤ 300 ∧ v = .slice a2 N2 c2 ∧ i = .int .i64 j ∧
            Sat B (row 27 3 (.slice a2 N2 c2) N2 (pks rs) :: both b a ps.length c ps [net b2 ps, pt t6 (.cells #[.int .i64 0, .int .i64 place, .int .i64 many, .slice xa xn xc] 40)]) wr)
          case atStart => exact ⟨0, [], none, 0, 0, by omega, by omega, by omega, by simp, by simp, by omega, rfl, rfl, h4.row_nil _ _⟩
          case round =>
            obtain ⟨gO, rfl⟩ : ∃ gO : Nat, gO = gk := ⟨_, rfl⟩
            obtain ⟨j, rs, a2, N2, c2, hj1, hj2, hj3, hr1, hr2, hr3, rfl, rfl, hs⟩ := hrel
            have m2 : wr.cell? ⟨t6, 2, none⟩ = some (.int .i64 many) := hs.p4.pt_cell 2
            clear h4
            by_cases hjM : (j : Int) < M
            · go_wp2_with fail
              go_loopg [8, 10] xn (fun g v i wr => ∃ (l : Nat) (rs : List Pk) (a2 : Option Addr) (N2 c2 : Nat), l + g ≤ xn ∧ xn ≤ l + g ∧ N2 ≤ rs.length ∧ rs.length ≤ N2 ∧ N2 ≤ 300 ∧ v = .slice a2 N2 c2 ∧ i = .int .i64 l ∧
                Sat B (row 27 3 (.slice a2 N2 c2) N2 (pks rs) :: both b a ps.length c ps [net b2 ps, pt t6 (.cells #[.int .i64 0, .int .i64 place, .int .i64 many, .slice xa xn xc] 40)]) wr)
              case atStart => exact ⟨0, rs, a2, N2, c2, by omega, by omega, hr1, hr2, hr3, rfl, rfl, hs⟩
              case round =>
                obtain ⟨l, rs, a2, N2, c2, hl1, hl2, hr1, hr2, hr3, rfl, rfl, hs⟩ := hrel
                have m3 : wr.cell? ⟨t6, 3, none⟩ = some (.slice xa xn xc) := hs.p4.pt_cell 3
                clear m2
                by_cases hlx : l < xn ∧ N2 < 300
                · obtain ⟨hlx1, hlx2⟩ := hlx
                  obtain ⟨g7, o7, hxa, p0, p1, p2⟩ := reads_pk (hs.reads hxr) Hxl.out l hlx1
                  subst hxa
                  obtain ⟨y, hy⟩ : ∃ y, qs[l]'(by rw [Hxl.out]; exact hlx1) = y := ⟨_, rfl⟩
                  rw [hy] at p0 p1 p2
                  clear hy
                  have hS1 := (hs.alloc (.cells #[.int .i64 y.1, .int .i64 y.2.1, .string y.2.2] 27)).swap
                  have b3 : N2 + 1 ≤ maxLen := by unfold maxLen; omega
                  have b4 : (N2 + 1) * 32 ≤ 140737488355328 := by omega
                  have ht6 := hs.p4.pt_lt
                  go_wp2_with (at_builtin; refine wpList_append_to rfl packet_elem (.tmp 85) (.tmp 91) rfl _ _ N2 1 (N2 + 1) (pks rs) (pcells y) (pks (rs ++ [y])) rfl rfl hS1 (reads_new _ _ rfl (by omega)) rfl (fun u hu => pks_one [y] u (by simpa [pks] using hu)) rfl (by rw [pks_append]; simp [pks]) b3 b4 ?_; intro a1 c1 w1 h1; go_frame)
                  go_roundg (gk - 1)
                  case measure => omega
                  case rel =>
                    have h1 : Sat B (row 27 3 (.slice _ (N2 + 1) _) _ (pks (rs ++ [y])) :: _ :: both b a ps.length c ps _) _ := ‹_›
                    exact ⟨l + 1, rs ++ [y], _, N2 + 1, _, by omega, by omega, by simp; omega, by simp; omega, by omega, rfl, by go_num, h1.swap.drop⟩
                · by_cases hl3 : l < xn
                  all_goals
                    have hl4 : l < xn → ¬ N2 < 300 := fun e1 e2 => hlx ⟨e1, e2⟩
                    clear hlx
                    go_wp2_with fail
                    go_roundg (gO - 1)
                    case measure => omega
                    case rel => exact ⟨j + 1, rs, a2, N2, c2, by omega, by omega, by omega, hr1, hr2, hr3, rfl, by go_num, hs⟩
            · go_wp2_with fail
              obtain ⟨lost, hl⟩ : ∃ x : Int, ((N2 : Int) - ((min (256 - ps.length) N2 : Nat) : Int)) = x := ⟨_, rfl⟩
              obtain ⟨qs', hq'⟩ : ∃ x, ps ++ rs.take (256 - ps.length) = x := ⟨_, rfl⟩
              have hql : qs'.length ≤ 256 := by rw [← hq', List.length_append, List.length_take]; omega
              have hc1 := send_net (ps := ps) hs.swap a2 c2 N2 rs hs.row_reads (by omega) hN
              rw [hl, hq'] at hc1
              refine hc1.mono ?_
              rintro e w3 ⟨rfl, h5⟩
              clear hc1
              have hc2 := rsend_any (ps := ps) (qs := rs) a a2 ps.length c N2 c2 (Sat.p2 h5.swap) rfl (by omega) hN
              rw [hl, hq'] at hc2
              clear hl hq' m2 hs h5
              have Hc2 := Lib.hid hc2
              clear hc2
              go_wp2_with fail
              refine Hc2.out.mono ?_
              rintro e w4 ⟨a3, c3, N3, rfl, hN3, h6⟩
              have HN3 := Lib.hid hN3
              clear hN3 Hc2
              obtain ⟨H, hH, h7⟩ := row_scr h6.swap
              clear h6
              go_wp2_with fail
              go_loopg [14] N2 (fun g i wr => ∃ (j : Nat) (H : HP), j + g ≤ N2 ∧ N2 ≤ j + g ∧ i = .int .i64 j ∧ scr 27 3 a2 N2 H ∧ Sat B (H :: row 27 3 (.slice a3 N3 c3) N3 (pks qs') :: net b qs' :: net b2 ps :: pt t6 (.cells #[.int .i64 0, .int .i64 place, .int .i64 many, .slice xa xn xc] 40) :: []) wr)
              case atStart => exact ⟨0, H, by omega, by omega, rfl, hH, h7⟩
              case round =>
                obtain ⟨j', H', hg3, hg4, rfl, hH, hs⟩ := hrel
                clear h7
                by_cases hj' : j' < N2
                · obtain ⟨g2, o2, v2, ha2, k0, k1, k2, k3⟩ := scr_cell hH hs (j' * 3 + 1) (by omega)
                  subst ha2
                  rw [← Nat.add_assoc] at k0 k1 k3
                  have Hk3 := Lib.hid k3
                  clear k3
                  go_wp2_with fail
                  go_roundg (gk - 1)
                  case measure => omega
                  case rel =>
                    obtain ⟨H2, hH2, h8⟩ := Hk3.out (.int .i64 (-7))
                    exact ⟨j' + 1, H2, by omega, by omega, by go_num, hH2, h8⟩
                · go_wp2_with fail
                  go_meet
                  exact ⟨qs', a3, N3, c3, Nat.le_of_eq HN3.out, Nat.le_of_eq HN3.out.symm, by rw [HN3.out]; exact hql, rfl, hs.drop.p3.drop.swap⟩
        · by_cases w1 : what = 1
          · subst w1
            obtain ⟨p, d, rs, ht⟩ : ∃ p d rs, tk ps place = (p, d, rs) := ⟨_, _, _, rfl⟩
            have hrl := tk_le ht
            have t1 : w2.cell? ⟨t6, 1, none⟩ = some (.int .i64 place) := h4.p3.pt_cell 1
            go_wp2_with fail
            refine (take_any h4 place hN ht).mono ?_
            rintro e w3 ⟨rfl, h5⟩
            have t1 : w3.cell? ⟨t6, 1, none⟩ = some (.int .i64 place) := h5.p3.pt_cell 1
            have tl : t6 < w3.heap.size := h5.p3.pt_lt
            go_wp2_with fail
            refine (rtake_any (ps := ps) a ps.length c ((h5.alloc (.cells #[.int .i64 p.1, .int .i64 p.2.1, .string p.2.2] 27)).p2) rfl place hN ht).mono ?_
            rintro e w4 ⟨a3, c3, N3, rfl, hN3, h6⟩
            have HN3 := Lib.hid hN3
            clear hN3
            obtain ⟨m15, em15⟩ : ∃ m, w3.heap.size = m := ⟨_, rfl⟩
            rw [em15] at h6 ⊢
            clear h5 h4 t0
            have hm15 := h6.swap.pt_lt
            have z0 := h6.swap.pt_cell 0
            have z1 := h6.swap.pt_cell 1
            have z2 := h6.swap.pt_cell 2
            go_wp2_with fail
            go_meet
            exact ⟨rs, a3, N3, c3, Nat.le_of_eq HN3.out, Nat.le_of_eq HN3.out.symm, by rw [HN3.out]; omega, rfl, (Sat.p3 (Sat.p5 (h6.alloc _)).drop).p3.drop.swap.drop⟩
          · by_cases w2' : what = 2
            · subst w2'
              obtain ⟨d, rs, ht⟩ : ∃ d rs, db ps place = (d, rs) := ⟨_, _, rfl⟩
              have hrl := db_le ht hN
              have t1 : w2.cell? ⟨t6, 1, none⟩ = some (.int .i64 place) := h4.p3.pt_cell 1
              go_wp2_with fail
              refine (rdouble_any (ps := ps) a ps.length c h4.swap rfl place hN ht).mono ?_
              rintro e w3 ⟨a3, c3, N3, rfl, hN3, h5⟩
              have HN3 := Lib.hid hN3
              clear hN3
              have t1 : w3.cell? ⟨t6, 1, none⟩ = some (.int .i64 place) := h5.p3.pt_cell 1
              go_wp2_with fail
              refine (double_any h5.swap place hN ht).mono ?_
              rintro e w4 ⟨rfl, h6⟩
              clear h5 h4 t0
              cases d
              all_goals
                go_wp2_with fail
                go_meet
                exact ⟨rs, a3, N3, c3, Nat.le_of_eq HN3.out, Nat.le_of_eq HN3.out.symm, by rw [HN3.out]; exact hrl, rfl, h6.p3.drop⟩
            · --
              obtain ⟨p, d, rs, ht⟩ : ∃ p d rs, tk ps place = (p, d, rs) := ⟨_, _, _, rfl⟩
              have hrl := tk_le ht
              have t1 : w2.cell? ⟨t6, 1, none⟩ = some (.int .i64 place) := h4.p3.pt_cell 1
              go_wp2_with fail
              refine (rtake_any (ps := ps) a ps.length c h4.swap rfl place hN ht).mono ?_
              rintro e w3 ⟨a3, c3, N3, rfl, hN3, h5⟩
              have HN3 := Lib.hid hN3
              clear hN3
              have t1 : w3.cell? ⟨t6, 1, none⟩ = some (.int .i64 place) := h5.p3.pt_cell 1
              have tl : t6 < w3.heap.size := h5.p3.pt_lt
              go_wp2_with fail
              refine (lose_any (Sat.p2 (h5.alloc (.cells #[.int .i64 p.1, .int .i64 p.2.1, .string p.2.2] 27))) place hN ht).mono ?_
              rintro e w4 ⟨rfl, h6⟩
              clear h5 h4 t0
              cases d
              all_goals
                go_wp2_with fail
                go_meet
                exact ⟨rs, a3, N3, c3, Nat.le_of_eq HN3.out, Nat.le_of_eq HN3.out.symm, by rw [HN3.out]; omega, rfl, h6.p4.drop.swap.drop⟩
      case rest =>
        obtain rfl : N = ps.length := by omega
        obtain ⟨qs, a9, N9, c9, hq1, hq2, hq3, rfl, hs⟩ := hcut
        obtain rfl : N9 = qs.length := by omega
        clear hq1 hq2 hp1 hp2
        go_wp2_with fail
        refine (all_net hs hq3).mono ?_
        rintro e w7 ⟨a7, c7, rfl, h7⟩
        clear hs
        go_wp2_with fail
        refine (len_net h7.swap).mono ?_
        rintro e w8 ⟨rfl, rfl⟩
        go_wp2_with fail
        refine (rsame (ps := qs) h7 a7 a9 qs.length c7 c9 rfl h7.row_reads h7.p2.row_reads).mono ?_
        rintro e w8 ⟨rfl, h8⟩
        clear h7
        obtain ⟨H, hH, h9⟩ := row_scr h8
        clear h8
        go_wp2_with fail
        go_loopg [26] qs.length (fun g i wr => ∃ (j : Nat) (H : HP), j + g ≤ qs.length ∧ qs.length ≤ j + g ∧ i = .int .i64 j ∧ scr 27 3 a7 qs.length H ∧ Sat B (H :: both b a9 qs.length c9 qs [net b2 ps]) wr)
        case atStart => exact ⟨0, H, by omega, by omega, rfl, hH, h9⟩
        case round =>
          obtain ⟨gO, rfl⟩ : ∃ gO : Nat, gO = gk := ⟨_, rfl⟩
          obtain ⟨j', H', hg3, hg4, rfl, hH, hs⟩ := hrel
          clear h9
          by_cases hj' : j' < qs.length
          · obtain ⟨g2, o2, v2, ha2, k0, k1, k2, k3⟩ := scr_cell hH hs (j' * 3) (by omega)
            subst ha2
            have Hk3 := Lib.hid k3
            clear k3
            go_wp2_with fail
            go_roundg (gO - 1)
            case measure => omega
            case rel =>
              obtain ⟨H2, hH2, h8⟩ := Hk3.out (.int .i64 (-8))
              exact ⟨j' + 1, H2, by omega, by omega, by go_num, hH2, h8⟩
          · have h10 : Sat B (net b2 ps :: net b qs :: row 27 3 (.slice a9 qs.length c9) qs.length (pks qs) :: []) wr := (Sat.drop hs).p2
            clear hs
            go_wp2_with fail
            refine (send_net (ps := ps) ((h10.alloc (.cells #[.int .i64 0, .int .i64 (-9), .string ⟨#[]⟩] 27)).swap) _ _ 1 [(0, -9, ⟨#[]⟩)] (reads_new _ _ rfl (by omega)) rfl hN).mono ?_
            rintro e w9 ⟨rfl, h11⟩
            have h12 := h11.swap.drop
            have hl2 : (ps ++ [((0, -9, ⟨#[]⟩) : Pk)].take (256 - ps.length)).length ≤ 256 := by rw [List.length_append, List.length_take]; omega
            clear h11 h10
            obtain ⟨p, d, rs, ht⟩ : ∃ p d rs, tk (ps ++ [((0, -9, ⟨#[]⟩) : Pk)].take (256 - ps.length)) 0 = (p, d, rs) := ⟨_, _, _, rfl⟩
            go_wp2_with fail
            refine (take_any h12 0 hl2 ht).mono ?_
            rintro e w10 ⟨rfl, h13⟩
            have h14 := h13.drop
            clear h12 h13
            go_wp2_with fail
            refine (all_net h14 hq3).mono ?_
            rintro e w11 ⟨a11, c11, rfl, h15⟩
            go_wp2_with fail
            refine (rsame (ps := qs) h15 a11 a9 qs.length c11 c9 rfl h15.row_reads h15.p2.row_reads).mono ?_
            rintro e w12 ⟨rfl, h16⟩
            clear h15 h14
            go_wp2_with fail
            go_roundg (gk - 1)
            case measure => omega
            case rel => exact ⟨k + 1, qs, a9, qs.length, c9, by omega, by omega, Nat.le_refl _, Nat.le_refl _, hq3, rfl, by go_num, h16.drop⟩
    · --
      by_cases hkn : k < n
      all_goals
        have hk60 : k < n → ¬ k < 60 := fun e1 e2 => hmore ⟨e1, e2⟩
        clear hmore h1
        go_wp2_with fail
        refine (works_net hs).mono ?_
        rintro e w3 ⟨rfl, h3⟩
        go_wp2_with fail
        go_ret
        exact ⟨rfl, h3.below⟩
#print axioms plays_law
end Go.Proofs.Ytgccdndlpjbkhaa
