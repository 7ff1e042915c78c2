/-
  NetOnce: the walk.
-/
import Derived.Test.YtgccdndlpjbkhaaNet3
import Derived.Test.YtgccdndlpjbkhaaSlMore
import Derived.Deep.LoopGhost
import Derived.Lib.Hide
import Derived.Deep.QuietTactic
import Derived.BigQuiet
namespace Go.Proofs.Ytgccdndlpjbkhaa
open Go.RowKit

/-- How often a letter stands in a list. -/
def times (us : List UInt8) (c : Nat) : Int := (us.countP fun u => u.toNat == c : Nat)
theorem times_nil (c : Nat) : times [] c = 0 := rfl
theorem times_snoc (us : List UInt8) (u : UInt8) (c : Nat) : times (us ++ [u]) c = times us c + if u.toNat = c then 1 else 0 := by
  unfold times
  rw [List.countP_append]
  by_cases h : u.toNat = c <;> simp [h]
theorem times_bound (us : List UInt8) (c : Nat) : 0 ≤ times us c ∧ times us c ≤ us.length := by
  unfold times
  exact ⟨by omega, by have := List.countP_le_length (p := fun u : UInt8 => u.toNat == c) (l := us); omega⟩
theorem times_erase (us : List UInt8) (j : Nat) (hj : j < us.length) (c : Nat) : times (us.eraseIdx j) c = times us c - if us[j].toNat = c then 1 else 0 := by
  have h1 : us = us.take j ++ us[j] :: us.drop (j + 1) := by rw [List.getElem_cons_drop, List.take_append_drop]
  have h2 : us.eraseIdx j = us.take j ++ us.drop (j + 1) := List.eraseIdx_eq_take_drop_succ ..
  have h3 : times us c = (((us.take j).countP fun u => u.toNat == c : Nat) : Int) + (((us[j] :: us.drop (j + 1)).countP fun u => u.toNat == c : Nat) : Int) := by
    unfold times
    conv => lhs; rw [h1]
    rw [List.countP_append]
    omega
  rw [h3]
  unfold times
  rw [h2, List.countP_append, List.countP_cons]
  by_cases h : us[j].toNat = c <;> simp [h] <;> omega
theorem times_pos (us : List UInt8) (j : Nat) (hj : j < us.length) : 1 ≤ times us us[j].toNat := by
  have := times_erase us j hj us[j].toNat
  have h2 := times_bound (us.eraseIdx j) us[j].toNat
  rw [if_pos rfl] at this
  omega

theorem map_erase {α β : Type} (f : α → β) (l : List α) (y : Nat) : (l.map f).eraseIdx y = (l.eraseIdx y).map f := by
  simp [List.eraseIdx_eq_take_drop_succ, List.map_take, List.map_drop]

/-- An array of 256 counts. -/
def tally (us : List UInt8) : Array Value := ints .i64 ((List.range 256).map (times us))
def counts (b : Nat) (us : List UInt8) : HP := pt b (.cells (tally us) 35)
theorem ints_set (k : IntKind) (xs : List Int) (j : Nat) (v : Int) : (ints k xs).setIfInBounds j (.int k v) = ints k (xs.set j v) := by
  simp [ints, List.map_set]
theorem counts_turn {us us' : List UInt8} {j : Nat} {v : Int} (hv : v = times us' j) (h : ∀ c, c ≠ j → times us' c = times us c) : ((List.range 256).map (times us)).set j v = (List.range 256).map (times us') := by
  refine List.ext_getElem (by simp) fun i h1 h2 => ?_
  rw [List.getElem_set]
  split
  · rename_i hij; subst hij; simp [hv]
  · rename_i hij; simp [h i (fun e => hij e.symm)]
theorem counts_at (us : List UInt8) (c : Nat) (hc : c < 256) : (tally us)[c]? = some (.int .i64 (times us c)) := by simp [tally, ints, hc]

theorem counts_set {B w : World} {L : List HP} {b : Nat} {us us' : List UInt8} (h : Sat B (counts b us :: L) w) (j : Nat) {v : Int} (hv : v = times us' j) (hc : ∀ c, c ≠ j → times us' c = times us c) :
    Sat B (counts b us' :: L) (w.setCell ⟨b, j, none⟩ (.int .i64 v)) := by
  have := Sat.set (j := j) h (.int .i64 v)
  unfold tally at this
  rw [ints_set, counts_turn hv hc] at this
  exact this
theorem pkrow_at {B w : World} {L : List HP} {a : Option Addr} {c : Nat} {us : List UInt8} (h : Sat B (pkrow a c (us.map pk) :: L) w) (y : Nat) (hy : y < us.length) :
    ∃ g off, a = some ⟨g, off, none⟩ ∧ g < w.heap.size ∧ w.cell? ⟨g, off + y * 3, none⟩ = some (.int .i64 1) ∧ w.cell? ⟨g, off + y * 3 + 1, none⟩ = some (.int .i64 2) ∧ w.cell? ⟨g, off + y * 3 + 2, none⟩ = some (.string ⟨#[us[y]]⟩) := by
  rcases h.row_form with ⟨hv, h0, _⟩ | ⟨g, off, cap, hv, _, _, _, hlt, hcells, _, _⟩
  · rw [List.length_map] at h0; omega
  cases hv
  obtain ⟨p0, p1, p2⟩ := pks_get (us.map pk) y (by simpa using hy)
  refine ⟨g, off, rfl, hlt, ?_, ?_, ?_⟩
  · have := hcells _ _ p0; simpa using this
  · have := hcells _ _ p1; rw [← Nat.add_assoc] at this; simpa using this
  · have := hcells _ _ p2; rw [← Nat.add_assoc] at this; simpa using this

theorem zero256 : (Try.prog.info? 35).map (·.zero) = some (some (.agg (tally []))) := by kernel_rfl

theorem size256 (us : List UInt8) : (Try.prog.info? 35).map (·.size) = some (tally us).size := by
  have h : (Try.prog.info? 35).map (·.size) = some 256 := by kernel_rfl
  rw [h]; simp [tally, ints]
theorem info_int : ∃ i, Try.prog.info? 3 = some i := by
  obtain ⟨i, hi, _⟩ := info_parts (P := Try.prog) (e := 3) (z := .int .i64 0) (size := 1) (bytes := 8) (by kernel_rfl)
  exact ⟨i, hi⟩
theorem cells_int : Try.prog.cellsOf 3 = 1 := by kernel_rfl
theorem guard256 : Try.prog.eqGuardType Try.prog.depth 35 = false := by kernel_rfl

set_option maxRecDepth 100000 in
set_option maxHeartbeats 2000000 in
theorem once_law (B : World) (la : Option Addr) (lc n : Nat) (bs : List UInt8) (hr : reads B (.slice la n lc) n (u8s bs)) (hn : bs.length = n) :
    Calls Try.prog 4 #[.slice la n lc] B fun e w' => e = .returned (.bool true) ∧ Below B.heap.size B w' := by
  obtain ⟨_, hnc, hcm⟩ := reads_len hr
  go_enter Try.func4, Try.ntmps4
  go_wp2_with fail
  refine (new_net (Sat.start B)).mono ?_
  rintro e w1 ⟨b, rfl, h1⟩
  go_wp2_with (refine wpList_alloc_any rfl 35 (.agg (tally [])) rfl zero256 h1 ?_; intro bt w2 hb1 hb2 h2; clear hb1 hb2; go_frame)
  have h2 : Sat B [counts bt [], net b (([] : List UInt8).map pk)] w2 := ‹Sat B (pt bt _ :: _) _›
  clear h1
  go_loopg [5] n (fun g i wr => ∃ (k : Nat) (us : List UInt8), k + g ≤ n ∧ n ≤ k + g ∧ us.length ≤ k ∧ k ≤ 200 ∧ i = .int .i64 k ∧ Sat B [counts bt us, net b (us.map pk)] wr)
  case atStart => exact ⟨0, [], by omega, by omega, by simp, by omega, rfl, h2⟩
  case round =>
    obtain ⟨k, us, hg1, hg2, hul, hk2, rfl, hs⟩ := hrel
    clear h2
    by_cases hmore : 2 * k + 1 < n ∧ k < 200
    · obtain ⟨hm1, hm2⟩ := hmore
      obtain ⟨ad, c', hv, h0, _, _, hc⟩ := hr
      cases hv
      obtain ⟨g, off, rfl, hB1⟩ := hc (2 * k + 1) (.int .u8 (bs[2 * k + 1]'(by omega)).toNat) (by simp [u8s, List.getElem?_eq_getElem (show 2 * k + 1 < bs.length by omega)])
      obtain ⟨_, _, hgo, hB0⟩ := hc (2 * k) (.int .u8 (bs[2 * k]'(by omega)).toNat) (by simp [u8s, List.getElem?_eq_getElem (show 2 * k < bs.length by omega)])
      cases hgo
      clear hc h0
      obtain ⟨z, hz⟩ : ∃ z : Nat, (bs[2 * k]'(by omega)).toNat = z := ⟨_, rfl⟩
      have hz2 : z < 256 := by rw [← hz]; exact (bs[2 * k]'(by omega)).toNat_lt
      rw [hz] at hB0
      clear hz
      obtain ⟨y, hy⟩ : ∃ y : Nat, (bs[2 * k + 1]'(by omega)).toNat = y := ⟨_, rfl⟩
      have hy2 : y < 256 := by rw [← hy]; exact (bs[2 * k + 1]'(by omega)).toNat_lt
      rw [hy] at hB1
      clear hy
      have hcell1 := (hs.old_cell (block_lt_of_cell hB1)).trans hB1
      have HB0 := Lib.hid hB0
      have HB1 := Lib.hid hB1
      clear hB0 hB1
      have hul2 : (us.map pk).length ≤ 256 := by rw [List.length_map]; omega
      go_wp2_with fail
      refine (all_net hs.swap hul2).mono ?_
      rintro e w3 ⟨a3, c3, rfl, h3⟩
      have hcell0 := (h3.old_cell (block_lt_of_cell HB0.out)).trans HB0.out
      rw [List.length_map]
      have h4 : z % 4 = 0 ∨ z % 4 = 1 ∨ z % 4 = 2 ∨ z % 4 = 3 := by omega
      clear hcell1 hs
      rcases h4 with h4 | h4 | h4 | h4
      · have e4 : (z : Int) % 4 = 0 := by omega
        clear h4
        go_wp2_with fail
        have hku : (UInt8.ofNat k).toNat = k := by rw [UInt8.toNat_ofNat']; omega
        refine (packet_int (u := UInt8.ofNat k) (by rw [hku]) h3.drop).mono ?_
        rintro e w4 ⟨rfl, h4⟩
        clear h3 hcell0
        go_wp2_with fail
        refine (send_net ((h4.alloc _).swap) _ _ 1 [pk (UInt8.ofNat k)] (reads_new _ _ rfl (by omega)) rfl hul2).mono ?_
        rintro e w5 ⟨rfl, h5⟩
        have h5' : Sat B [counts bt us, net b ((us ++ [UInt8.ofNat k]).map pk)] w5 := by
          rw [List.take_of_length_le (by simp; omega)] at h5
          rw [List.map_append]
          exact h5.swap.drop.swap
        clear h4 h5
        have hz1 : ((1 : Nat) : Int) - ((min (256 - (us.map pk).length) 1 : Nat) : Int) = 0 := by rw [List.length_map]; omega
        rw [hz1]
        clear hz1
        have hb := times_bound us k
        obtain ⟨q, hq⟩ : ∃ q, q = times us k := ⟨_, rfl⟩
        rw [← hq] at hb
        obtain ⟨hq0, hq1⟩ := hb
        have hq2 : q ≤ 1000 := by omega
        have hcq : w5.cell? ⟨bt, k, none⟩ = some (.int .i64 q) := by rw [hq]; exact (h5'.pt_cell k).trans (counts_at us k (by omega))
        have hfq := h5'.pt_free k
        have Hq := Lib.hid hq
        clear hq hq1
        have Hku := Lib.hid hku
        clear hku
        go_wp2_with fail
        go_roundg (gk - 1)
        case measure => omega
        case rel =>
          refine ⟨k + 1, us ++ [UInt8.ofNat k], by omega, by omega, by simp; omega, by omega, by go_num, ?_⟩
          refine counts_set h5' k ?_ ?_
          · rw [times_snoc, if_pos Hku.out, Hq.out]
          · intro c hc
            rw [times_snoc, if_neg (fun e => hc (by rw [← e, Hku.out])), Int.add_zero]
      · have e4 : (z : Int) % 4 = 1 := by omega
        clear h4
        by_cases hyl : y < us.length
        · have hyb : y < (us.map pk).length := by simpa using hyl
          obtain ⟨g3, o3, rfl, hg3, q0, q1, q2⟩ := pkrow_at h3 y hyl
          clear q0 q1 q2 hg3
          go_wp2_with fail
          refine (take_net h3.swap y hyb hul2).mono ?_
          rintro e w4 ⟨rfl, h4⟩
          rw [List.getElem_map] 
          obtain ⟨_, _, hgo, hg3, q0, q1, q2⟩ := pkrow_at h4.swap y hyl
          cases hgo
          clear h3 hcell0
          obtain ⟨u, hu⟩ : ∃ u, us[y] = u := ⟨_, rfl⟩
          rw [hu] at q2 ⊢
          have hu2 : u.toNat < 256 := u.toNat_lt
          have e0 : ((⟨#[u]⟩ : ByteArray)[0]'(by decide : 0 < 1)).toNat = u.toNat := rfl
          have hb := times_bound us u.toNat
          have hb1 := times_pos us y hyl
          rw [hu] at hb1
          obtain ⟨q, hq⟩ : ∃ q, q = times us u.toNat := ⟨_, rfl⟩
          rw [← hq] at hb hb1
          obtain ⟨hq0, hq1⟩ := hb
          have hq2 : q ≤ 1000 := by omega
          have hcq : w4.cell? ⟨bt, u.toNat, none⟩ = some (.int .i64 q) := by rw [hq]; exact (h4.p2.pt_cell u.toNat).trans (counts_at us u.toNat (by omega))
          have hfq := h4.p2.pt_free u.toNat
          have hbt := h4.p2.pt_lt
          have Hq := Lib.hid hq
          clear hq hq1
          have Hu := Lib.hid hu
          clear hu
          go_wp2_with fail
          go_quiet (fail)
          go_wp2_with fail
          go_roundg (gk - 1)
          case measure => omega
          case rel =>
            refine ⟨k + 1, us.eraseIdx y, by omega, by omega, by rw [List.length_eraseIdx, if_pos hyl]; omega, by omega, by go_num, ?_⟩
            have h5 := (((h4.alloc (.cells #[.int .i64 1, .int .i64 2, .string ⟨#[u]⟩] 27)).drop.drewN nq).swap.drop).swap
            refine Sat.head (counts_set h5 u.toNat ?_ ?_) (fun _ hx => hx) |>.swap |>.head ?_ |>.swap
            · rw [times_erase us y hyl, Hu.out, if_pos rfl, Hq.out]
            · intro c hc
              rw [times_erase us y hyl, Hu.out, if_neg (fun e => hc e.symm), Int.sub_zero]
            · intro x hx
              rw [map_erase] at hx
              exact hx
        · have hyl2 : us.length ≤ y := by omega
          go_wp2_with fail
          refine (take_net_no h3.swap y (.inr (by rw [List.length_map]; omega))).mono ?_
          rintro e w4 ⟨rfl, h4⟩
          clear h3 hcell0
          go_wp2_with fail
          go_quiet (fail)
          go_wp2_with fail
          go_roundg (gk - 1)
          case measure => omega
          case rel => exact ⟨k + 1, us, by omega, by omega, by omega, by omega, by go_num, (((h4.alloc (.cells #[.int .i64 0, .int .i64 0, .string ⟨#[]⟩] 27)).drop.drewN nq).swap.drop).swap⟩
      · have e4 : (z : Int) % 4 = 2 := by omega
        clear h4
        by_cases hyl : y < us.length
        · have hyb : y < (us.map pk).length := by simpa using hyl
          obtain ⟨g3, o3, rfl, hg3, q0, q1, q2⟩ := pkrow_at h3 y hyl
          clear q0 q1 q2 hg3
          have hl3 : (us.map pk).length < 256 := by rw [List.length_map]; omega
          go_wp2_with fail
          refine (double_net h3.swap y hyb hul2).mono ?_
          rintro e w4 ⟨rfl, h4⟩
          rw [if_pos hl3, List.getElem_map] at h4
          rw [decide_eq_true hl3]
          clear hl3
          obtain ⟨_, _, hgo, hg3, q0, q1, q2⟩ := pkrow_at h4.swap y hyl
          cases hgo
          clear h3 hcell0
          obtain ⟨u, hu⟩ : ∃ u, us[y] = u := ⟨_, rfl⟩
          rw [hu] at q2 h4
          have hu2 : u.toNat < 256 := u.toNat_lt
          have e0 : ((⟨#[u]⟩ : ByteArray)[0]'(by decide : 0 < 1)).toNat = u.toNat := rfl
          have hb := times_bound us u.toNat
          obtain ⟨q, hq⟩ : ∃ q, q = times us u.toNat := ⟨_, rfl⟩
          rw [← hq] at hb
          obtain ⟨hq0, hq1⟩ := hb
          have hq2 : q ≤ 1000 := by omega
          have hcq : w4.cell? ⟨bt, u.toNat, none⟩ = some (.int .i64 q) := by rw [hq]; exact (h4.p2.pt_cell u.toNat).trans (counts_at us u.toNat (by omega))
          have hfq := h4.p2.pt_free u.toNat
          have Hq := Lib.hid hq
          clear hq hq1
          have Hu := Lib.hid hu
          clear hu
          go_wp2_with fail
          go_roundg (gk - 1)
          case measure => omega
          case rel =>
            refine ⟨k + 1, us ++ [u], by omega, by omega, by simp; omega, by omega, by go_num, ?_⟩
            have h5 := (h4.swap.drop).swap
            refine Sat.head (counts_set h5 u.toNat ?_ ?_) (fun _ hx => hx) |>.swap |>.head ?_ |>.swap
            · rw [times_snoc, if_pos rfl, Hq.out]
            · intro c hc
              rw [times_snoc, if_neg (fun e => hc e.symm), Int.add_zero]
            · intro x hx
              rw [List.map_append]
              exact hx
        · have hyl2 : us.length ≤ y := by omega
          go_wp2_with fail
          refine (double_net_no h3.swap y (.inr (by rw [List.length_map]; omega))).mono ?_
          rintro e w4 ⟨rfl, h4⟩
          clear h3 hcell0
          go_wp2_with fail
          go_roundg (gk - 1)
          case measure => omega
          case rel => exact ⟨k + 1, us, by omega, by omega, by omega, by omega, by go_num, (h4.swap.drop).swap⟩
      · have e4 : (z : Int) % 4 = 3 := by omega
        clear h4
        by_cases hyl : y < us.length
        · have hyb : y < (us.map pk).length := by simpa using hyl
          obtain ⟨g3, o3, rfl, hg3, q0, q1, q2⟩ := pkrow_at h3 y hyl
          clear q0 q1 q2 hg3
          go_wp2_with fail
          refine (lose_net h3.swap y hyb hul2).mono ?_
          rintro e w4 ⟨rfl, h4⟩
          obtain ⟨_, _, hgo, hg3, q0, q1, q2⟩ := pkrow_at h4.swap y hyl
          cases hgo
          clear h3 hcell0
          obtain ⟨u, hu⟩ : ∃ u, us[y] = u := ⟨_, rfl⟩
          rw [hu] at q2
          have hu2 : u.toNat < 256 := u.toNat_lt
          have e0 : ((⟨#[u]⟩ : ByteArray)[0]'(by decide : 0 < 1)).toNat = u.toNat := rfl
          have hb := times_bound us u.toNat
          have hb1 := times_pos us y hyl
          rw [hu] at hb1
          obtain ⟨q, hq⟩ : ∃ q, q = times us u.toNat := ⟨_, rfl⟩
          rw [← hq] at hb hb1
          obtain ⟨hq0, hq1⟩ := hb
          have hq2 : q ≤ 1000 := by omega
          have hcq : w4.cell? ⟨bt, u.toNat, none⟩ = some (.int .i64 q) := by rw [hq]; exact (h4.p2.pt_cell u.toNat).trans (counts_at us u.toNat (by omega))
          have hfq := h4.p2.pt_free u.toNat
          have Hq := Lib.hid hq
          clear hq hq1
          have Hu := Lib.hid hu
          clear hu
          go_wp2_with fail
          go_roundg (gk - 1)
          case measure => omega
          case rel =>
            refine ⟨k + 1, us.eraseIdx y, by omega, by omega, by rw [List.length_eraseIdx, if_pos hyl]; omega, by omega, by go_num, ?_⟩
            have h5 := (h4.swap.drop).swap
            refine Sat.head (counts_set h5 u.toNat ?_ ?_) (fun _ hx => hx) |>.swap |>.head ?_ |>.swap
            · rw [times_erase us y hyl, Hu.out, if_pos rfl, Hq.out]
            · intro c hc
              rw [times_erase us y hyl, Hu.out, if_neg (fun e => hc e.symm), Int.sub_zero]
            · intro x hx
              rw [map_erase] at hx
              exact hx
        · have hyl2 : us.length ≤ y := by omega
          go_wp2_with fail
          refine (lose_net_no h3.swap y (.inr (by rw [List.length_map]; omega))).mono ?_
          rintro e w4 ⟨rfl, h4⟩
          clear h3 hcell0
          go_wp2_with fail
          go_roundg (gk - 1)
          case measure => omega
          case rel => exact ⟨k + 1, us, by omega, by omega, by omega, by omega, by go_num, (h4.swap.drop).swap⟩
    · have hul2 : (us.map pk).length ≤ 256 := by rw [List.length_map]; omega
      by_cases hj1 : 2 * k + 1 < n
      all_goals
        have hj2 : 2 * k + 1 < n → ¬ k < 200 := fun h1 h2 => hmore ⟨h1, h2⟩
        clear hmore
        go_wp2_with (refine wpList_alloc_any rfl 35 (.agg (tally [])) rfl zero256 hs ?_; intro bn w2 hb1 hb2 h2; clear hb1 hb2; go_frame)
        have h2 : Sat B (counts bn [] :: [counts bt us, net b (us.map pk)]) w2 := ‹Sat B (pt bn _ :: _) _›
        refine (all_net h2.p2 hul2).mono ?_
        rintro e w3 ⟨a3, c3, rfl, h3⟩
        rw [List.length_map]
        clear hs h2 hr
        go_wp2_with fail
        go_loopg [12] us.length (fun g i wr => ∃ j : Nat, j + g ≤ us.length ∧ us.length ≤ j + g ∧ i = .int .i64 j ∧ Sat B [counts bn (us.take j), pkrow a3 c3 (us.map pk), net b (us.map pk), counts bt us] wr)
        case atStart => exact ⟨0, by omega, by omega, rfl, h3.p2⟩
        case round =>
          obtain ⟨j, hg1, hg2, rfl, hs⟩ := hrel
          by_cases hjl : j < us.length
          · obtain ⟨g3, o3, ha3, hg3, q0, q1, q2⟩ := pkrow_at hs.swap j hjl
            subst ha3
            clear h3
            obtain ⟨u, hu⟩ : ∃ u, us[j] = u := ⟨_, rfl⟩
            rw [hu] at q2
            have hu2 : u.toNat < 256 := u.toNat_lt
            have e0 : ((⟨#[u]⟩ : ByteArray)[0]'(by decide : 0 < 1)).toNat = u.toNat := rfl
            have hb := times_bound (us.take j) u.toNat
            have htl : (us.take j).length ≤ us.length := List.length_take_le' ..
            obtain ⟨q, hq⟩ : ∃ q, q = times (us.take j) u.toNat := ⟨_, rfl⟩
            rw [← hq] at hb
            obtain ⟨hq0, hq1⟩ := hb
            have hq2 : q ≤ 1000 := by omega
            have hcq : wr.cell? ⟨bn, u.toNat, none⟩ = some (.int .i64 q) := by rw [hq]; exact (hs.pt_cell u.toNat).trans (counts_at _ u.toNat (by omega))
            have hfq := hs.pt_free u.toNat
            have Hq := Lib.hid hq
            clear hq hq1 htl
            have Hu := Lib.hid hu
            clear hu
            go_wp2_with fail
            go_roundg (gk - 1)
            case measure => omega
            case rel =>
              refine ⟨j + 1, by omega, by omega, by go_num, ?_⟩
              have ht : us.take (j + 1) = us.take j ++ [u] := by rw [List.take_succ_eq_append_getElem hjl, Hu.out]
              rw [ht]
              refine counts_set hs u.toNat ?_ ?_
              · rw [times_snoc, if_pos rfl, Hq.out]
              · intro c hc
                rw [times_snoc, if_neg (fun e => hc e.symm), Int.add_zero]
          · obtain rfl : j = us.length := by omega
            rw [List.take_length] at hs
            obtain ⟨ii, hii⟩ := info_int
            have Hii := Lib.hid hii
            clear hii h3
            go_wp2_with (first
              | ((with_reducible refine wpList_load_row rfl 35 (.tmp 10) rfl bn ?_ 35 _ (0, 0) _ hs.pt_at Try.underlying35 ?_ (size256 us) ?_); rfl; rfl; go_frame)
              | ((with_reducible refine wpList_load_row rfl 35 (.tmp 4) rfl bt ?_ 35 _ (0, 0) _ hs.p3.pt_at Try.underlying35 ?_ (size256 us) ?_); rfl; rfl; go_frame)
              | ((with_reducible refine wpList_eql_ints rfl (.tmp 162) (.tmp 163) 35 3 256 .i64 .i64 ii rfl Try.underlying35 Hii.out Try.underlying3 cells_int guard256 ((List.range 256).map (times us)) ?_ ?_ ?_ ?_); simp; rfl; rfl; go_frame))
            refine (len_net hs.p2).mono ?_
            rintro e w4 ⟨rfl, rfl⟩
            rw [List.length_map]
            go_wp2_with fail
            refine (works_net hs).mono ?_
            rintro e w4 ⟨rfl, h4⟩
            go_wp2_with fail
            go_ret
            exact ⟨rfl, h4.below⟩
#print axioms once_law
end Go.Proofs.Ytgccdndlpjbkhaa
