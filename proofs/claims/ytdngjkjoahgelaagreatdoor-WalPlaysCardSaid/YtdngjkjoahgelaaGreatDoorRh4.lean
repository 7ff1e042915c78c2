/-
  WalPlays: the document's log (acreageref07): Drop.
-/
import Derived.Test.YtdngjkjoahgelaaGreatDoorQhA
namespace Go.Proofs.YtdngjkjoahgelaaGreatDoor
set_option linter.all false
set_option maxRecDepth 100000
set_option maxHeartbeats 2000000
open Go.RowKit
def dropQ (p : Bt) (to_ : Nat) : List Nat → Fls → Fls
  | a :: b :: ls, D => if b ≤ to_ then dropQ p to_ (b :: ls) (removeD D (nameW p a)).2 else D
  | _, D => D
theorem QD.remove {D : Fls} (h : QD D) (n : Bt) : QD (removeD D n).2 := by
  unfold removeD
  split
  · exact h
  · rename_i f hg
    exact ⟨h.srt.del n, Nat.le_trans (len_del n D) h.len, fun f hf => h.names f (List.mem_filter.1 hf).1, by have := used_del h.srt hg; have := h.used; simp only; omega⟩
section
variable {B w w' : World} {L : List HP} {room most : Int} {D : Fls} {v : Value} {p : Bt}
theorem pqDrop (to_ : Nat) (hto : to_ ≤ 18446744073709551615) (hq : qR w v D) (hD : QD D) (hp : p.length ≤ 48) :
    Calls Tryz.prog 28 #[wval room v p most, .int .u64 (to_ : Int)] w fun y w' => ∃ v', y = .returned (wval room v' p most) ∧ qNew w w' v v' D (dropQ p to_ (numsW D p) D) := by
  obtain ⟨a, c, rfl⟩ := hq.len
  obtain ⟨bx, hbx⟩ : ∃ bx, w.heap.size = bx := ⟨_, rfl⟩
  have h1 := ((((Sat.start w).alloc' (.cells #[.int .i64 room, .slice a D.length c, .string (bA p), .int .i64 most] 58) (n := bx) hbx.symm).alloc' (.cells #[.int .i64 0, .slice none 0 0, .string ⟨#[]⟩, .int .i64 0] 58) (n := bx + 1) (by simp [hbx])).src_in (.slice a D.length c) D)
  have hF := pqFiles (room := room) (most := most) (p := p) (h1.qR hq) hD.len (by omega) hD.names
  obtain ⟨l, hl⟩ : ∃ l, numsW D p = l := ⟨_, rfl⟩
  have hin : ∀ n ∈ l, inR n := fun n h => nums_inR (D := D) (p := p) (by rw [hl]; exact h)
  have hnl := nums_len hD p
  have hzp : (bA p).size = p.length := bA_size p
  have p1 : (p.length : Int) ≤ 48 := by omega
  rw [hl] at hF hnl
  rw [hl]
  obtain ⟨n, hn⟩ : ∃ n, l.length = n := ⟨_, rfl⟩
  rw [hn] at hF hnl
  have n1 : (n : Int) ≤ 1000000 := by omega
  have t1 : (to_ : Int) ≤ 18446744073709551615 := by omega
  have Hq := Lib.hid hq
  have Hl := Lib.hid hl
  have Hn := Lib.hid hn
  have Hin := Lib.hid hin
  have HD := Lib.hid hD
  have Hp := Lib.hid hp
  clear hq hD hl hin hn hto
  go_enter Tryz.func28, Tryz.ntmps28
  go_wp2_with fail
  refine hF.mono ?_
  rintro y w2 ⟨lv, rfl, hs2⟩
  have h2 := h1.over hs2
  clear hF h1 hs2
  obtain ⟨la, lc, rfl, _⟩ := h2.row_reads
  have h3 : Sat w (row 35 1 (.slice la n lc) n (u64s l) :: pt bx (.cells #[.int .i64 room, .slice a D.length c, .string (bA p), .int .i64 most] 58) :: qsrc (.slice a D.length c) D (.slice a D.length c) D :: pt (bx + 1) (.cells #[.int .i64 0, .slice none 0 0, .string ⟨#[]⟩, .int .i64 0] 58) :: []) w2 := h2.p3.swap
  clear h2
  go_wp2_with fail
  go_loopg [6] (n + 1) (fun gh v6 wr => ∃ (i : Nat) (Di : Fls) (ai : Option Addr) (ci : Nat), i ≤ n ∧ n + 1 ≤ i + gh ∧ v6 = .int .i64 (i : Int) ∧ QD Di ∧ Hid (dropQ p to_ (l.drop i) Di = dropQ p to_ l D) ∧
    Sat w (row 35 1 (.slice la n lc) n (u64s l) :: pt bx (.cells #[.int .i64 room, .slice ai Di.length ci, .string (bA p), .int .i64 most] 58) :: qsrc (.slice a D.length c) D (.slice ai Di.length ci) Di :: pt (bx + 1) (.cells #[.int .i64 0, .slice none 0 0, .string ⟨#[]⟩, .int .i64 0] 58) :: []) wr)
  case atStart => exact ⟨0, D, a, c, by omega, by omega, rfl, HD.out, Lib.hid rfl, h3⟩
  case round =>
    obtain ⟨i, Di, ai, ci, hi1, hi2, rfl, hQi, Hdr, h5⟩ := hrel
    clear h3
    -- how the round ends
    have hend : ∀ (DF : Fls), DF = dropQ p to_ l D → DF = Di → ∀ (wz : World) (L' : List HP), Sat w (qsrc (.slice a D.length c) D (.slice ai Di.length ci) Di :: []) wz → qNew w wz (.slice a D.length c) (.slice ai Di.length ci) D (dropQ p to_ l D) := fun DF h1 h2 wz L' h => by
      rw [← h1, h2]; exact h.src_out
    have cN := fun (w3 : World) (x : Nat) (hx : inR x) => pqName (w := w3) p x (by have := hx.2; omega) (by have := Hp.out; omega)
    have cR := fun (w3 : World) (v3 : Value) (nm : Bt) (h3 : qR w3 v3 Di) => pqRemove (room := room) (w := w3) (v := v3) nm h3 hQi.srt hQi.len
    by_cases hi : i + 1 < n
    · obtain ⟨x, hx⟩ : ∃ x, l[i]? = some x := ⟨_, List.getElem?_eq_getElem (by rw [Hn.out]; omega)⟩
      obtain ⟨z, hz⟩ : ∃ z, l[i + 1]? = some z := ⟨_, List.getElem?_eq_getElem (by rw [Hn.out]; exact hi)⟩
      have hxr := Hin.out x (List.mem_of_getElem? hx)
      have hdr1 : l.drop i = x :: l.drop (i + 1) := by
        obtain ⟨hlt, e⟩ := List.getElem?_eq_some_iff.1 hx
        rw [List.drop_eq_getElem_cons hlt, e]
      have hdr2 : l.drop (i + 1) = z :: l.drop (i + 1 + 1) := by
        obtain ⟨hlt, e⟩ := List.getElem?_eq_some_iff.1 hz
        rw [List.drop_eq_getElem_cons hlt, e]
      have hdd : dropQ p to_ (l.drop i) Di = if z ≤ to_ then dropQ p to_ (l.drop (i + 1)) (removeD Di (nameW p x)).2 else Di := by rw [hdr1, hdr2, dropQ]
      rw [Hdr.out] at hdd
      have Hdd := Lib.hid hdd
      obtain ⟨g, off, e, c2, _⟩ := h5.row_cell (i + 1) (by omega)
      cases e
      have c2' : wr.cell? ⟨g, off + (i + 1), none⟩ = some (.int .u64 (z : Int)) := by rw [c2]; exact u64s_get hz
      have i1 : (i : Int) < (n : Int) - 1 := by omega
      have i2 : (i : Int) + 1 < (n : Int) := by omega
      have i3 : (0 : Int) ≤ (i : Int) + 1 := by omega
      have i4 : ((i : Int) + 1).toNat = i + 1 := by omega
      clear hdr1 hdr2 hdd c2 hz
      by_cases hzt : z ≤ to_
      · have b1 : (z : Int) ≤ (to_ : Int) := by omega
        have Hnx := Lib.hid (show dropQ p to_ (l.drop (i + 1)) (removeD Di (nameW p x)).2 = dropQ p to_ l D by rw [Hdd.out, if_pos hzt])
        obtain ⟨nm, hnm⟩ : ∃ nm, nameW p x = nm := ⟨_, rfl⟩
        have cN1 := fun (w3 : World) => cN w3 x hxr
        have cR1 := fun (w3 : World) (v3 : Value) (h3 : qR w3 v3 Di) => cR w3 v3 nm h3
        rw [hnm] at cN1 Hnx
        obtain ⟨e3, D3, q3⟩ : ∃ e3 D3, removeD Di nm = (e3, D3) := ⟨_, _, rfl⟩
        have hQ3 : QD D3 := by have := hQi.remove nm; rw [q3] at this; exact this
        have es : e3 ≠ 0 → D3 = Di := fun h => by have := q_remove_err (D := Di) (n := nm); rw [q3] at this; exact this h
        simp only [q3] at cR1 Hnx
        have hS : ∀ (w' : World) (L' : List HP), Sat w (row 35 1 (.slice (some ⟨g, off, none⟩) n lc) n (u64s l) :: pt bx (.cells #[.int .i64 room, .slice ai Di.length ci, .string (bA p), .int .i64 most] 58) :: L') w' → w'.cell? ⟨g, off + i, none⟩ = some (.int .u64 (x : Int)) ∧ w'.cell? ⟨bx, 0, none⟩ = some (.int .i64 room) ∧ w'.cell? ⟨bx, 1, none⟩ = some (.slice ai Di.length ci) ∧ w'.cell? ⟨bx, 2, none⟩ = some (.string (bA p)) := fun w' L' h => by
          obtain ⟨g', off', e, c1, _⟩ := h.row_cell i (by omega)
          cases e
          exact ⟨by rw [c1]; exact u64s_get hx, h.swap.pt_cell 0, h.swap.pt_cell 1, h.swap.pt_cell 2⟩
        have i5 : (i : Int) < (n : Int) := by omega
        clear q3 hnm cN cR hend hzt
        go_wp2_with fail
        have h5d := h5.drew
        obtain ⟨x0, x1, x2, x3⟩ := hS _ _ h5d
        clear hx
        go_region_law (first
          | (go_simp; go_at_call 54; refine (cN1 _).mono ?_; rintro y w8 ⟨rfl, hb8⟩; have h8 := h5d.of_below hb8; obtain ⟨y0, y1, y2, y3⟩ := hS _ _ h8)
          | (go_simp; go_at_call 52; refine (cR1 _ _ (h8.p2.src_R Hq.out)).mono ?_; rintro y w9 ⟨v9, rfl, ho9⟩; have h9 := h8.p2.src_new (ho9.new es); clear ho9; simp only at h9; obtain ⟨a9, c9, rfl⟩ := (h9.src_R Hq.out).len; have z0 := h9.p2.pt_cell 0; have z1 := h9.p2.pt_cell 1; have f0 := h9.p2.pt_free 0; have f1 := h9.p2.pt_free 1; simp only [List.getElem?_toArray, List.getElem?_cons_zero, List.getElem?_cons_succ] at z0 z1))
        all_goals
          have h10 := (h9.p2.set (j := 0) (.int .i64 room)).set (j := 1) (.slice a9 D3.length c9)
          simp only [List.setIfInBounds_toArray, List.set_cons_zero, List.set_cons_succ] at h10
          generalize (World.setCell _ _ _).setCell _ _ = w10 at h10 ⊢
          clear hS h5 h5d h8 h9 x0 x1 x2 x3 y0 y1 y2 y3 z0 z1 f0 f1
          go_wp2_with fail
          go_roundg (gk - 1)
          case measure => omega
          case rel => exact ⟨i + 1, D3, a9, c9, by omega, by omega, by go_num, hQ3, Hnx, h10.p2⟩
      · have b1 : ¬ (z : Int) ≤ (to_ : Int) := by omega
        have Hfin := Lib.hid (show dropQ p to_ l D = Di by rw [Hdd.out, if_neg hzt])
        clear hend cN cR hzt hx
        have x0 := h5.swap.pt_cell 0
        have x1 := h5.swap.pt_cell 1
        have x2 := h5.swap.pt_cell 2
        have x3 := h5.swap.pt_cell 3
        have z0 := h5.p3.pt_cell 0
        have z1 := h5.p3.pt_cell 1
        have z2 := h5.p3.pt_cell 2
        have z3 := h5.p3.pt_cell 3
        have g0 := h5.p3.pt_free 0
        have g1 := h5.p3.pt_free 1
        have g2 := h5.p3.pt_free 2
        have g3 := h5.p3.pt_free 3
        simp only [List.getElem?_toArray, List.getElem?_cons_zero, List.getElem?_cons_succ] at x0 x1 x2 x3 z0 z1 z2 z3
        go_wp2_with fail
        have h12 := (((h5.p3.set (j := 0) (.int .i64 room)).set (j := 1) (.slice ai Di.length ci)).set (j := 2) (.string (bA p))).set (j := 3) (.int .i64 most)
        generalize World.setCell (World.setCell (World.setCell (World.setCell _ _ _) _ _) _ _) _ _ = wz at h12 ⊢
        have k0 := h12.pt_cell 0
        have k1 := h12.pt_cell 1
        have k2 := h12.pt_cell 2
        have k3 := h12.pt_cell 3
        simp only [List.setIfInBounds_toArray, List.set_cons_zero, List.set_cons_succ, List.getElem?_toArray, List.getElem?_cons_zero, List.getElem?_cons_succ] at k0 k1 k2 k3
        refine bodyPost_ret (v := wval room (.slice ai Di.length ci) p most) (by simp [results, Tryz.results28, go_sem, k0, k1, k2, k3]) rfl ?_
        rw [Hfin.out]
        exact ⟨_, rfl, h12.drop.drop.drop.src_out⟩
    · have i1 : ¬ (i : Int) < (n : Int) - 1 := by omega
      have Hfin := Lib.hid (show dropQ p to_ l D = Di by
        rw [← Hdr.out]
        have hll : (l.drop i).length ≤ 1 := by rw [List.length_drop, Hn.out]; omega
        rcases hls : l.drop i with _ | ⟨x, _ | ⟨z, ls⟩⟩
        · rfl
        · rfl
        · rw [hls] at hll; simp at hll)
      clear hend cN cR
      have x0 := h5.swap.pt_cell 0
      have x1 := h5.swap.pt_cell 1
      have x2 := h5.swap.pt_cell 2
      have x3 := h5.swap.pt_cell 3
      have z0 := h5.p3.pt_cell 0
      have z1 := h5.p3.pt_cell 1
      have z2 := h5.p3.pt_cell 2
      have z3 := h5.p3.pt_cell 3
      have g0 := h5.p3.pt_free 0
      have g1 := h5.p3.pt_free 1
      have g2 := h5.p3.pt_free 2
      have g3 := h5.p3.pt_free 3
      simp only [List.getElem?_toArray, List.getElem?_cons_zero, List.getElem?_cons_succ] at x0 x1 x2 x3 z0 z1 z2 z3
      go_wp2_with fail
      have h12 := (((h5.p3.set (j := 0) (.int .i64 room)).set (j := 1) (.slice ai Di.length ci)).set (j := 2) (.string (bA p))).set (j := 3) (.int .i64 most)
      generalize World.setCell (World.setCell (World.setCell (World.setCell _ _ _) _ _) _ _) _ _ = wz at h12 ⊢
      have k0 := h12.pt_cell 0
      have k1 := h12.pt_cell 1
      have k2 := h12.pt_cell 2
      have k3 := h12.pt_cell 3
      simp only [List.setIfInBounds_toArray, List.set_cons_zero, List.set_cons_succ, List.getElem?_toArray, List.getElem?_cons_zero, List.getElem?_cons_succ] at k0 k1 k2 k3
      refine bodyPost_ret (v := wval room (.slice ai Di.length ci) p most) (by simp [results, Tryz.results28, go_sem, k0, k1, k2, k3]) rfl ?_
      rw [Hfin.out]
      exact ⟨_, rfl, h12.drop.drop.drop.src_out⟩
end
end Go.Proofs.YtdngjkjoahgelaaGreatDoor
