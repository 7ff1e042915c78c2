/-
  WalPlays: the document's log (acreageref07): Cut (printed by wip/gen/rh7.py).
-/
import Derived.Test.YtdngjkjoahgelaaGreatDoorRh5
namespace Go.Proofs.YtdngjkjoahgelaaGreatDoor
set_option linter.all false
set_option maxRecDepth 100000
set_option maxHeartbeats 4000000
open Go.RowKit
/-- 'Cut's loop, from the last file on. -/
def cutGo (room : Nat) (p : Bt) (fr : Nat) : List Nat → Fls → Int × Fls
  | [], D => (0, D)
  | x :: xs, D => if fr < x then cutGo room p fr xs (removeD D (nameW p x)).2 else anewQ room D p x (framesB ((recsQ D p x).take (fr - x)))
def cutQ (room : Nat) (p : Bt) (D : Fls) (fr : Nat) : Int × Fls :=
  if fr < firstQ D p then (2, D) else if nextQ D p ≤ fr then (0, D) else cutGo room p fr (numsW D p).reverse D
/-- The loop finds its records. -/
def CutOk (p : Bt) (fr : Nat) : List Nat → Fls → Prop
  | [], _ => True
  | x :: xs, D => if fr < x then CutOk p fr xs (removeD D (nameW p x)).2 else fr - x ≤ (recsQ D p x).length
theorem firstQ_lt {D : Fls} (p : Bt) : firstQ D p ≤ 1000000000000000 := by
  unfold firstQ
  cases h : numsW D p with
  | nil => simp
  | cons x l => exact (nums_inR (D := D) (p := p) (by rw [h]; simp)).2
theorem rev_take {l : List Nat} {i x : Nat} (h : l[i]? = some x) : (l.take (i + 1)).reverse = x :: (l.take i).reverse := by
  rw [List.take_add_one, h]; simp
theorem frames_snocQ (rs : List Bt) (b : Bt) : framesB (rs ++ [b]) = framesB rs ++ frameB b := by simp [framesB]
section
variable {B w w' : World} {L : List HP} {room : Nat} {most : Int} {D : Fls} {v : Value} {p : Bt}
theorem pqCut (fr : Nat) (hfr : fr ≤ 18446744073709551615) (hq : qR w v D) (hD : DOk room D) (hl : D.length ≤ 999000) (hu : usedD D ≤ 500000000000) (hp : p.length ≤ 48)
    (hc : firstQ D p ≤ fr → fr < nextQ D p → CutOk p fr (numsW D p).reverse D) :
    Calls Tryz.prog 27 #[wval (room : Int) v p most, .int .u64 (fr : Int)] w fun y w' => ∃ v', y = .returned (.tuple #[wval (room : Int) v' p most, .int .i64 (cutQ room p D fr).1]) ∧ qNew w w' v v' D (cutQ room p D fr).2 := by
  obtain ⟨a, c, rfl⟩ := hq.len
  obtain ⟨bx, hbx⟩ : ∃ bx, w.heap.size = bx := ⟨_, rfl⟩
  have hQ : QD D := QD.of hD (by omega) (by omega)
  have h1 : Sat w (qsrc (.slice a D.length c) D (.slice a D.length c) D :: pt (bx + 1) (.cells #[.int .i64 0, .slice none 0 0, .string ⟨#[]⟩, .int .i64 0] 58) :: pt bx (.cells #[.int .i64 (room : Int), (.slice a D.length c), .string (bA p), .int .i64 most] 58) :: []) _ := ((((Sat.start w).alloc' (.cells #[.int .i64 (room : Int), .slice a D.length c, .string (bA p), .int .i64 most] 58) (n := bx) hbx.symm).alloc' (.cells #[.int .i64 0, .slice none 0 0, .string ⟨#[]⟩, .int .i64 0] 58) (n := bx + 1) (by simp [hbx])).src_in (.slice a D.length c) D)
  have hzp : (bA p).size = p.length := bA_size p
  have p1 : (p.length : Int) ≤ 48 := by omega
  have f1 : (fr : Int) ≤ 18446744073709551615 := by omega
  have cFi := fun (w3 : World) (h3 : qR w3 (.slice a D.length c) D) => pqFirst (w := w3) (room := (room : Int)) (most := most) (p := p) h3 hQ (by omega)
  have cNx := fun (w3 : World) (h3 : qR w3 (.slice a D.length c) D) => pqNext (w := w3) (room := (room : Int)) (most := most) (p := p) h3 hQ (by omega)
  have cFl := fun (w3 : World) (h3 : qR w3 (.slice a D.length c) D) => pqFiles (w := w3) (room := (room : Int)) (most := most) (p := p) h3 hQ.len (by omega) hQ.names
  obtain ⟨fs, hfs⟩ : ∃ fs, firstQ D p = fs := ⟨_, rfl⟩
  obtain ⟨nx, hnx⟩ : ∃ nx, nextQ D p = nx := ⟨_, rfl⟩
  have hfs1 : (fs : Int) ≤ 1000000000000000 := by have := firstQ_lt (D := D) p; omega
  have hnx1 : (nx : Int) ≤ 1001099511627776 := by have := (nextQ_lt hQ p).2; omega
  obtain ⟨l, hl2⟩ : ∃ l, numsW D p = l := ⟨_, rfl⟩
  have hcq : cutQ room p D fr = if fr < fs then (2, D) else if nx ≤ fr then (0, D) else cutGo room p fr l.reverse D := by rw [cutQ, hfs, hnx, hl2]
  have hin : ∀ n ∈ l, inR n := fun n h => nums_inR (D := D) (p := p) (by rw [hl2]; exact h)
  have hnl := nums_len hQ p
  obtain ⟨n, hn⟩ : ∃ n, l.length = n := ⟨_, rfl⟩
  rw [hfs, hnx, hl2] at hc
  rw [hl2, hn] at hnl
  simp only [hl2, hn] at cFl
  simp only [hfs] at cFi
  simp only [hnx] at cNx
  have n1 : (n : Int) ≤ 1000000 := by omega
  have Hq := Lib.hid hq
  have HD := Lib.hid hD
  have Hl := Lib.hid hl
  have Hu := Lib.hid hu
  have Hn := Lib.hid hn
  have Hin := Lib.hid hin
  have Hp := Lib.hid hp
  have Hcq := Lib.hid hcq
  have Hc := Lib.hid hc
  clear hq hD hl hu hQ hl2 hin hn hcq hc hfs hnx hfr
  have hxb := h1.p2.pt_cell 0
  clear hxb
  go_enter Tryz.func27, Tryz.ntmps27
  go_wp2_with fail
  refine (cFi _ (h1.src_R Hq.out)).mono ?_
  rintro y w2 ⟨rfl, hb2⟩
  have h2 := h1.of_below hb2
  clear h1 hb2 cFi
  have x0 := h2.p2.pt_cell 0
  have x1 := h2.p2.pt_cell 1
  have x2 := h2.p2.pt_cell 2
  have x3 := h2.p2.pt_cell 3
  simp only [List.getElem?_toArray, List.getElem?_cons_zero, List.getElem?_cons_succ] at x0 x1 x2 x3
  by_cases hf : fr < fs
  · have b1 : (fr : Int) < (fs : Int) := by omega
    have Hres := Lib.hid (show cutQ room p D fr = (2, D) by rw [Hcq.out, if_pos hf])
    have z0 := h2.swap.pt_cell 0
    have z1 := h2.swap.pt_cell 1
    have z2 := h2.swap.pt_cell 2
    have z3 := h2.swap.pt_cell 3
    have g0 := h2.swap.pt_free 0
    have g1 := h2.swap.pt_free 1
    have g2 := h2.swap.pt_free 2
    have g3 := h2.swap.pt_free 3
    simp only [List.getElem?_toArray, List.getElem?_cons_zero, List.getElem?_cons_succ] at z0 z1 z2 z3
    go_wp2_with fail
    have h12 := (((h2.swap.set (j := 0) (.int .i64 (room : Int))).set (j := 1) (.slice a D.length c)).set (j := 2) (.string (bA p))).set (j := 3) (.int .i64 most)
    generalize World.setCell (World.setCell (World.setCell (World.setCell _ _ _) _ _) _ _) _ _ = wz at h12 ⊢
    have k0 := h12.pt_cell 0
    have k1 := h12.pt_cell 1
    have k2 := h12.pt_cell 2
    have k3 := h12.pt_cell 3
    simp only [List.setIfInBounds_toArray, List.set_cons_zero, List.set_cons_succ, List.getElem?_toArray, List.getElem?_cons_zero, List.getElem?_cons_succ] at k0 k1 k2 k3
    refine bodyPost_ret (v := .tuple #[wval (room : Int) (.slice a D.length c) p most, .int .i64 2]) (by simp [results, Tryz.results27, go_sem, k0, k1, k2, k3]) rfl ?_
    rw [Hres.out]
    exact ⟨_, rfl, h12.drop.swap.drop.src_out⟩
  · have b1 : ¬ (fr : Int) < (fs : Int) := by omega
    go_wp2_with fail
    refine (cNx _ (h2.src_R Hq.out)).mono ?_
    rintro y w3 ⟨rfl, hb3⟩
    have h3 := h2.of_below hb3
    clear h2 hb3 cNx x0 x1 x2 x3
    have x0 := h3.p2.pt_cell 0
    have x1 := h3.p2.pt_cell 1
    have x2 := h3.p2.pt_cell 2
    have x3 := h3.p2.pt_cell 3
    simp only [List.getElem?_toArray, List.getElem?_cons_zero, List.getElem?_cons_succ] at x0 x1 x2 x3
    by_cases hx : nx ≤ fr
    · have b2 : (fr : Int) ≥ (nx : Int) := by omega
      have b2' : (nx : Int) ≤ (fr : Int) := by omega
      have Hres := Lib.hid (show cutQ room p D fr = (0, D) by rw [Hcq.out, if_neg hf, if_pos hx])
      have z0 := h3.swap.pt_cell 0
      have z1 := h3.swap.pt_cell 1
      have z2 := h3.swap.pt_cell 2
      have z3 := h3.swap.pt_cell 3
      have g0 := h3.swap.pt_free 0
      have g1 := h3.swap.pt_free 1
      have g2 := h3.swap.pt_free 2
      have g3 := h3.swap.pt_free 3
      simp only [List.getElem?_toArray, List.getElem?_cons_zero, List.getElem?_cons_succ] at z0 z1 z2 z3
      go_wp2_with fail
      have h12 := (((h3.swap.set (j := 0) (.int .i64 (room : Int))).set (j := 1) (.slice a D.length c)).set (j := 2) (.string (bA p))).set (j := 3) (.int .i64 most)
      generalize World.setCell (World.setCell (World.setCell (World.setCell _ _ _) _ _) _ _) _ _ = wz at h12 ⊢
      have k0 := h12.pt_cell 0
      have k1 := h12.pt_cell 1
      have k2 := h12.pt_cell 2
      have k3 := h12.pt_cell 3
      simp only [List.setIfInBounds_toArray, List.set_cons_zero, List.set_cons_succ, List.getElem?_toArray, List.getElem?_cons_zero, List.getElem?_cons_succ] at k0 k1 k2 k3
      refine bodyPost_ret (v := .tuple #[wval (room : Int) (.slice a D.length c) p most, .int .i64 0]) (by simp [results, Tryz.results27, go_sem, k0, k1, k2, k3]) rfl ?_
      rw [Hres.out]
      exact ⟨_, rfl, h12.drop.swap.drop.src_out⟩
    · have b2 : ¬ (fr : Int) ≥ (nx : Int) := by omega
      have b2' : ¬ (nx : Int) ≤ (fr : Int) := by omega
      have Hres := Lib.hid (show cutQ room p D fr = cutGo room p fr l.reverse D by rw [Hcq.out, if_neg hf, if_neg hx])
      have hcok := Hc.out (by omega) (by omega)
      clear hf hx
      go_wp2_with fail
      refine (cFl _ (h3.src_R Hq.out)).mono ?_
      rintro y w4 ⟨lv, rfl, hs4⟩
      have h4 := h3.over hs4
      clear h3 hs4 cFl x0 x1 x2 x3
      obtain ⟨la, lc, rfl, hlr⟩ := h4.row_reads
      clear hlr
      have h5 : Sat w (row 35 1 (.slice la n lc) n (u64s l) :: qsrc (.slice a D.length c) D (.slice a D.length c) D :: pt bx (.cells #[.int .i64 (room : Int), (.slice a D.length c), .string (bA p), .int .i64 most] 58) :: pt (bx + 1) (.cells #[.int .i64 0, .slice none 0 0, .string ⟨#[]⟩, .int .i64 0] 58) :: []) w4 := h4.p3.q2
      clear h4
      go_wp2_with fail
      go_loopg [7] (n + 1) (fun gh v7 wr => ∃ (i : Nat) (Di : Fls) (ai : Option Addr) (ci : Nat), i ≤ n ∧ i + 1 ≤ gh ∧ v7 = .int .i64 ((i : Int) - 1) ∧ DOk room Di ∧ Di.length ≤ 999000 ∧ usedD Di ≤ 500000000000 ∧ CutOk p fr (l.take i).reverse Di ∧
        Hid (cutGo room p fr (l.take i).reverse Di = cutGo room p fr l.reverse D) ∧
        Sat w (row 35 1 (.slice la n lc) n (u64s l) :: qsrc (.slice a D.length c) D (.slice ai Di.length ci) Di :: pt bx (.cells #[.int .i64 (room : Int), .slice ai Di.length ci, .string (bA p), .int .i64 most] 58) :: pt (bx + 1) (.cells #[.int .i64 0, .slice none 0 0, .string ⟨#[]⟩, .int .i64 0] 58) :: []) wr)
      case atStart => exact ⟨n, D, a, c, by omega, by omega, rfl, HD.out, Hl.out, Hu.out, by rw [List.take_of_length_le (by rw [Hn.out]; exact Nat.le_refl _)]; exact hcok, Lib.hid (by rw [List.take_of_length_le (by rw [Hn.out]; exact Nat.le_refl _)]), h5⟩
      case round =>
        obtain ⟨i, Di, ai, ci, hi1, hi2, rfl, oki, li, ui, hok, Hgo, h5'⟩ := hrel
        clear h5 hcok
        have h5 := h5'
        clear h5'
        cases i with
        | zero =>
          have b3 : ¬ (((0 : Nat) : Int) - 1) ≥ 0 := by omega
          have Hr2 := Lib.hid (show cutQ room p D fr = (0, Di) by rw [Hres.out, ← Hgo.out]; rfl)
          clear Hres
          have Hres := Hr2
          have x0 := h5.p2.pt_cell 0
          have x1 := h5.p2.pt_cell 1
          have x2 := h5.p2.pt_cell 2
          have x3 := h5.p2.pt_cell 3
          simp only [List.getElem?_toArray, List.getElem?_cons_zero, List.getElem?_cons_succ] at x0 x1 x2 x3
          have z0 := h5.p3.pt_cell 0
          have z1 := h5.p3.pt_cell 1
          have z2 := h5.p3.pt_cell 2
          have z3 := h5.p3.pt_cell 3
          have g0 := h5.p3.pt_free 0
          have g1 := h5.p3.pt_free 1
          have g2 := h5.p3.pt_free 2
          have g3 := h5.p3.pt_free 3
          simp only [List.getElem?_toArray, List.getElem?_cons_zero, List.getElem?_cons_succ] at z0 z1 z2 z3
          go_wp2_with fail
          have h12 := (((h5.p3.set (j := 0) (.int .i64 (room : Int))).set (j := 1) (.slice ai Di.length ci)).set (j := 2) (.string (bA p))).set (j := 3) (.int .i64 most)
          generalize World.setCell (World.setCell (World.setCell (World.setCell _ _ _) _ _) _ _) _ _ = wz at h12 ⊢
          have k0 := h12.pt_cell 0
          have k1 := h12.pt_cell 1
          have k2 := h12.pt_cell 2
          have k3 := h12.pt_cell 3
          simp only [List.setIfInBounds_toArray, List.set_cons_zero, List.set_cons_succ, List.getElem?_toArray, List.getElem?_cons_zero, List.getElem?_cons_succ] at k0 k1 k2 k3
          refine bodyPost_ret (v := .tuple #[wval (room : Int) (.slice ai Di.length ci) p most, .int .i64 0]) (by simp [results, Tryz.results27, go_sem, k0, k1, k2, k3]) rfl ?_
          rw [Hres.out]
          exact ⟨_, rfl, (h12.drop.drop.swap.drop).src_out⟩
        | succ i =>
          have j0 : ((i + 1 : Nat) : Int) - 1 = (i : Int) := by omega
          rw [j0]
          obtain ⟨x, hx⟩ : ∃ x, l[i]? = some x := ⟨_, List.getElem?_eq_getElem (by rw [Hn.out]; omega)⟩
          have hxr := Hin.out x (List.mem_of_getElem? hx)
          have hrv := rev_take hx
          rw [hrv, CutOk] at hok
          have hgo := Hgo.out
          rw [hrv, cutGo] at hgo
          obtain ⟨g, off, e, hcc⟩ := h5.row_cell i (by omega)
          clear hcc hrv Hgo
          cases e
          have i1 : (i : Int) < (n : Int) := by omega
          have i2 : (i : Int) ≥ 0 := by omega
          have hxb : (x : Int) ≤ 1000000000000000 := by have := hxr.2; omega
          have hS : ∀ (w' : World) (L' : List HP), Sat w (row 35 1 (.slice (some ⟨g, off, none⟩) n lc) n (u64s l) :: qsrc (.slice a D.length c) D (.slice ai Di.length ci) Di :: pt bx (.cells #[.int .i64 (room : Int), .slice ai Di.length ci, .string (bA p), .int .i64 most] 58) :: L') w' → w'.cell? ⟨g, off + i, none⟩ = some (.int .u64 (x : Int)) ∧ w'.cell? ⟨bx, 0, none⟩ = some (.int .i64 (room : Int)) ∧ w'.cell? ⟨bx, 1, none⟩ = some (.slice ai Di.length ci) ∧ w'.cell? ⟨bx, 2, none⟩ = some (.string (bA p)) ∧ w'.cell? ⟨bx, 3, none⟩ = some (.int .i64 most) := fun w' L' h => by
            obtain ⟨g', off', e, c1, _⟩ := h.row_cell i (by omega)
            cases e
            exact ⟨by rw [c1]; exact u64s_get hx, h.p2.pt_cell 0, h.p2.pt_cell 1, h.p2.pt_cell 2, h.p2.pt_cell 3⟩
          have h5d := h5.drew
          obtain ⟨c9, x0, x1, x2, x3⟩ := hS _ _ h5
          obtain ⟨d9, y0, y1, y2, y3⟩ := hS _ _ h5d
          by_cases hlt : fr < x
          · have b4 : (x : Int) > (fr : Int) := by omega
            have b4' : (fr : Int) < (x : Int) := by omega
            rw [if_pos hlt] at hok hgo
            have cN := fun (w3 : World) => pqName (w := w3) p x (by have := hxr.2; omega) (by have := Hp.out; omega)
            obtain ⟨nm, hnm⟩ : ∃ nm, nameW p x = nm := ⟨_, rfl⟩
            rw [hnm] at cN hok hgo
            have cRm := fun (w3 : World) (h3 : qR w3 (.slice ai Di.length ci) Di) => pqRemove (room := (room : Int)) (w := w3) nm h3 oki.srt (by omega)
            obtain ⟨e7, D7, q7⟩ : ∃ e7 D7, removeD Di nm = (e7, D7) := ⟨_, _, rfl⟩
            have er : e7 ≠ 0 → D7 = Di := fun h => by have := q_remove_err (D := Di) (n := nm); rw [q7] at this; exact this h
            have ok7 : DOk room D7 := by have := oki.remove nm; rw [q7] at this; exact this
            have l7 : D7.length ≤ 999000 := by have := len_remove Di nm; rw [q7] at this; simp only at this; omega
            have u7 : usedD D7 ≤ 500000000000 := by have := used_remove_le (m := nm) oki; rw [q7] at this; simp only at this; omega
            simp only [q7] at cRm hok hgo
            have Hnx := Lib.hid hgo
            have Hok2 := Lib.hid hok
            clear hok hgo hnm q7 hx oki li ui
            go_wp2_with fail
            go_region_law (first
              | (go_simp; go_at_call 54; refine (cN _).mono ?_; rintro y w8 ⟨rfl, hb8⟩; have h8 := h5d.of_below hb8; obtain ⟨t9, t0, t1, t2, t3⟩ := hS _ _ h8)
              | (go_simp; go_at_call 52; refine (cRm _ (h8.swap.src_R Hq.out)).mono ?_; rintro y w9 ⟨v9, rfl, ho9⟩; have h9 := h8.swap.src_new (ho9.new er); clear ho9; simp only at h9; obtain ⟨a9, c9, rfl⟩ := (h9.src_R Hq.out).len; have z0 := h9.p2.pt_cell 0; have z1 := h9.p2.pt_cell 1; have g0 := h9.p2.pt_free 0; have g1 := h9.p2.pt_free 1; simp only [List.getElem?_toArray, List.getElem?_cons_zero, List.getElem?_cons_succ] at z0 z1))
            all_goals
              have h10 := (h9.p2.set (j := 0) (.int .i64 (room : Int))).set (j := 1) (.slice a9 D7.length c9)
              simp only [List.setIfInBounds_toArray, List.set_cons_zero, List.set_cons_succ] at h10
              generalize (World.setCell _ _ _).setCell _ _ = w10 at h10 ⊢
              clear hS h5 h5d h8 h9 x0 x1 x2 x3 y0 y1 y2 y3 z0 z1 g0 g1 t0 t1 t2 t3 t9 d9
              go_wp2_with fail
              go_roundg (gk - 1)
              case measure => omega
              case rel => exact ⟨i, D7, a9, c9, by omega, by omega, by go_num, ok7, l7, u7, Hok2.out, Hnx, h10.q2.swap⟩
          · have b4 : ¬ (x : Int) > (fr : Int) := by omega
            have b4' : ¬ (fr : Int) < (x : Int) := by omega
            rw [if_neg hlt] at hok hgo
            have cRc := fun (w3 : World) (h3 : qR w3 (.slice ai Di.length ci) Di) => precords (room := (room : Int)) (most := most) (p := p) (w := w3) x (by have := hxr.2; omega) h3 oki.srt (by omega) (by omega) (QD.of oki (by omega) (by omega)).bytes
            have hsg := scan_good (bytesOf (nameW p x) Di).length (bytesOf (nameW p x) Di) (Nat.le_refl _)
            have hbl := (QD.of oki (by omega) (by omega)).bytesOf (nameW p x)
            have hbu : (bytesOf (nameW p x) Di).length ≤ usedD Di := by
              unfold Go.Proofs.YtdngjkjoahgelaaGreatDoor.bytesOf
              cases hg : getF (nameW p x) Di with
              | none => simp
              | some f =>
                obtain ⟨l1, l2, e⟩ := List.append_of_mem (getF_mem hg)
                have : usedD Di = usedD (l1 ++ l2) + f.bytes.length := by rw [e, used_mid]
                simp only [Option.map_some, Option.getD_some]; omega
            obtain ⟨rs, hrs⟩ : ∃ rs, scanB (bytesOf (nameW p x) Di) = rs := ⟨_, rfl⟩
            rw [recsQ, hrs] at hok hgo
            rw [hrs] at hsg
            simp only [hrs] at cRc
            obtain ⟨hg1, _, hg3, _⟩ := hsg
            obtain ⟨m, hm⟩ : ∃ m, fr - x = m := ⟨_, rfl⟩
            rw [hm] at hok hgo
            have hmi : (fr : Int) - (x : Int) = (m : Int) := by omega
            obtain ⟨q, hqq⟩ : ∃ q, rs.length = q := ⟨_, rfl⟩
            rw [hqq] at hok
            simp only [hqq] at cRc
            have hql : 8 * q ≤ goodB rs := by rw [← hqq]; exact rs_le rs
            have m1 : (m : Int) ≤ (q : Int) := by omega
            have q1 : (q : Int) ≤ 500000000000 := by omega
            have wm : IntKind.u64.wrap (m : Int) = (m : Int) := by simp [IntKind.wrap, IntKind.bits, IntKind.signed]; omega
            have cAn := fun (w3 : World) (h3 : qR w3 (.slice ai Di.length ci) Di) => pqanew (w := w3) (most := most) x (framesB (rs.take m)) h3 oki (by omega) (by
              have : goodB (rs.take m) ≤ goodB rs := by
                have e := good_app (rs.take m) (rs.drop m)
                rw [List.take_append_drop] at e; omega
              rw [frames_len]; omega) hxr hp
            obtain ⟨e10, D10, q10⟩ : ∃ e10 D10, anewQ room Di p x (framesB (rs.take m)) = (e10, D10) := ⟨_, _, rfl⟩
            have Hr2 := Lib.hid (show cutQ room p D fr = (e10, D10) by rw [Hres.out, ← hgo, q10])
            simp only [q10] at cAn
            have hgU : goodB rs ≤ 500000000000 := by omega
            have Hqq := Lib.hid hqq
            have Hg3 := Lib.hid hg3
            clear hok hgo hrs hqq hg3 q10 hm hbl hbu Hres
            go_wp2_with fail
            go_region_held3 (fun w' => w'.cell? ⟨g, off + i, none⟩ = some (.int .u64 (x : Int)) ∧ w'.cell? ⟨bx, 0, none⟩ = some (.int .i64 (room : Int)) ∧ w'.cell? ⟨bx, 1, none⟩ = some (.slice ai Di.length ci) ∧ w'.cell? ⟨bx, 2, none⟩ = some (.string (bA p)) ∧ w'.cell? ⟨bx, 3, none⟩ = some (.int .i64 most))
              (first | exact ⟨d9, y0, y1, y2, y3⟩ | exact hS _ _ h6.drop)
              (first | (go_at_call 63; refine (cRc _ (h5d.swap.src_R Hq.out)).mono ?_; rintro y w6 ⟨v6, rfl, hs6⟩; have h6 := h5d.over hs6; obtain ⟨ra, rc, rfl, hrr⟩ := h6.row_reads; clear hrr))
            all_goals
              have h7 := h6.drew
              clear h7
              have hRS : ∀ (w' : World) (L' : List HP), Sat w (row 9 1 (.slice ra q rc) q (strB rs) :: row 35 1 (.slice (some ⟨g, off, none⟩) n lc) n (u64s l) :: L') w' → ∀ (j : Nat) (b : Bt), rs[j]? = some b → j < q → ∃ gr ofr, ra = some ⟨gr, ofr, none⟩ ∧ w'.cell? ⟨gr, ofr + j, none⟩ = some (.string (bA b)) ∧ w'.cell? ⟨g, off + i, none⟩ = some (.int .u64 (x : Int)) := fun w' L' h j b hb hj => by
                obtain ⟨gr, ofr, e, c1, _⟩ := h.row_cell j (by omega)
                obtain ⟨g', off', e2, c2, _⟩ := h.swap.row_cell i (by omega)
                cases e2
                exact ⟨gr, ofr, e, by rw [c1]; exact strB_get hb, by rw [c2]; exact u64s_get hx⟩
              have hRX : ∀ (w' : World) (L' : List HP), Sat w (row 9 1 (.slice ra q rc) q (strB rs) :: row 35 1 (.slice (some ⟨g, off, none⟩) n lc) n (u64s l) :: L') w' → w'.cell? ⟨g, off + i, none⟩ = some (.int .u64 (x : Int)) := fun w' L' h => by
                obtain ⟨g', off', e2, c2, _⟩ := h.swap.row_cell i (by omega)
                cases e2
                rw [c2]; exact u64s_get hx
              obtain ⟨gO, hgO⟩ : ∃ gO, gO = gk := ⟨_, rfl⟩
              have HgO := Lib.hid hgO
              have hi2' : i + 1 + 1 ≤ gO := by omega
              clear c9 x0 x1 x2 x3 d9 y0 y1 y2 y3 h5 h5d cRc hgO
              go_wp2_with fail
              go_loopg [9, 10] (m + 1) (fun gh v9 v10 wz => ∃ k : Nat, k ≤ m ∧ m + 1 ≤ k + gh ∧ v9 = .string (bA (framesB (rs.take k))) ∧ v10 = .int .u64 (k : Int) ∧ Sat w (row 9 1 (.slice ra q rc) q (strB rs) :: row 35 1 (.slice (some ⟨g, off, none⟩) n lc) n (u64s l) :: qsrc (.slice a D.length c) D (.slice ai Di.length ci) Di :: pt bx (.cells #[.int .i64 (room : Int), .slice ai Di.length ci, .string (bA p), .int .i64 most] 58) :: pt (bx + 1) (.cells #[.int .i64 0, .slice none 0 0, .string ⟨#[]⟩, .int .i64 0] 58) :: []) wz)
              case atStart => exact ⟨0, by omega, by omega, rfl, rfl, h6⟩
              case round =>
                obtain ⟨k, hk1, hk2, rfl, rfl, h8⟩ := hrel
                clear h6
                have c9 := hRX _ _ h8
                by_cases hk : k < m
                · have k1 : (k : Int) < (m : Int) := by omega
                  obtain ⟨b, hb⟩ : ∃ b, rs[k]? = some b := ⟨_, List.getElem?_eq_getElem (by rw [Hqq.out]; omega)⟩
                  obtain ⟨gr, ofr, rfl, cb, _⟩ := hRS _ _ h8 k b hb (by omega)
                  have hbl := Hg3.out b (List.mem_of_getElem? hb)
                  have k2 : (k : Int) < (q : Int) := by omega
                  have cFr := fun (w : World) => pqFrame (w := w) b hbl
                  have hsnoc : framesB (rs.take (k + 1)) = framesB (rs.take k) ++ frameB b := by rw [List.take_add_one, hb]; exact frames_snocQ _ _
                  have hfl1 : (framesB (rs.take k)).length ≤ 500000000000 := by
                    have e := good_app (rs.take k) (rs.drop k)
                    rw [List.take_append_drop] at e
                    rw [frames_len]; omega
                  have hfl2 : (frameB b).length ≤ 1048584 := by rw [frame_len]; omega
                  obtain ⟨sA, hsA⟩ : ∃ sA, framesB (rs.take k) = sA := ⟨_, rfl⟩
                  obtain ⟨sB, hsB⟩ : ∃ sB, frameB b = sB := ⟨_, rfl⟩
                  rw [hsA] at hfl1 hsnoc
                  rw [hsB] at hfl2 hsnoc cFr
                  rw [hsA]
                  have hzA : (bA sA).size = sA.length := bA_size _
                  have hzB : (bA sB).size = sB.length := bA_size _
                  have Hsn := Lib.hid hsnoc
                  have wk : IntKind.u64.wrap ((k : Int) + 1) = (k : Int) + 1 := by simp [IntKind.wrap, IntKind.bits, IntKind.signed]; omega
                  clear hb hsnoc hsA hsB hbl
                  go_wp2_with (go_at_call 61; refine (cFr _).mono ?_; rintro y w11 ⟨rfl, hb11⟩; have h11 := h8.of_below hb11)
                  go_roundg (gk - 1)
                  case measure => omega
                  case rel => exact ⟨k + 1, by omega, by omega, by rw [Hsn.out, ← bA_app], by go_num, h11⟩
                · obtain rfl : k = m := by omega
                  have k1 : ¬ (k : Int) < (k : Int) := by omega
                  go_wp2_with fail
                  have h9 := h8.drop
                  have h9d := h9.drew
                  obtain ⟨d9, y0, y1, y2, y3⟩ := hS _ _ h9d
                  clear h8 c9 hRS hRX
                  go_region_law (first
                    | (go_simp; go_at_call 57; refine (cAn _ (h9d.swap.src_R Hq.out)).mono ?_; rintro y w13 ⟨v13, rfl, hn13⟩; have h13 := h9d.swap.src_new hn13; obtain ⟨a13, c13, rfl⟩ := (h13.src_R Hq.out).len; have z0 := h13.p3.pt_cell 0; have z1 := h13.p3.pt_cell 1; have z2 := h13.p3.pt_cell 2; have z3 := h13.p3.pt_cell 3; have g0 := h13.p3.pt_free 0; have g1 := h13.p3.pt_free 1; have g2 := h13.p3.pt_free 2; have g3 := h13.p3.pt_free 3; simp only [List.getElem?_toArray, List.getElem?_cons_zero, List.getElem?_cons_succ] at z0 z1 z2 z3))
                  all_goals
                    go_wp2_with fail
                    have h12 := (((h13.p3.set (j := 0) (.int .i64 (room : Int))).set (j := 1) (.slice a13 D10.length c13)).set (j := 2) (.string (bA p))).set (j := 3) (.int .i64 most)
                    generalize World.setCell (World.setCell (World.setCell (World.setCell _ _ _) _ _) _ _) _ _ = wz at h12 ⊢
                    have k0 := h12.pt_cell 0
                    have k1 := h12.pt_cell 1
                    have k2 := h12.pt_cell 2
                    have k3 := h12.pt_cell 3
                    simp only [List.setIfInBounds_toArray, List.set_cons_zero, List.set_cons_succ, List.getElem?_toArray, List.getElem?_cons_zero, List.getElem?_cons_succ] at k0 k1 k2 k3
                    refine bodyPost_ret (v := .tuple #[wval (room : Int) (.slice a13 D10.length c13) p most, .int .i64 e10]) (by simp [results, Tryz.results27, go_sem, k0, k1, k2, k3]) rfl ?_
                    rw [Hr2.out]
                    exact ⟨_, rfl, (h12.drop.swap.drop.swap.drop).src_out⟩
end
end Go.Proofs.YtdngjkjoahgelaaGreatDoor
