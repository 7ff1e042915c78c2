/-
  WalPlays: 'same': a disk of the program's and one of the document's that hold the same. WalPlays: 'begun': the disk and the document's disk that the game begins with.
-/
import Derived.Test.YtdngjkjoahgelaaGreatDoorQpA
import Derived.Test.YtdngjkjoahgelaaGreatDoorWn1
namespace Go.Proofs.YtdngjkjoahgelaaGreatDoor
set_option linter.all false
set_option maxRecDepth 100000
set_option maxHeartbeats 2000000
open Go.RowKit
section
variable {B w w' : World} {L : List HP} {p room : Nat} {D : Fls} {v : Value}
theorem read_at {i : Nat} {x : Fl} (hs : SrtBy Fl.name D) (hx : D[i]? = some x) : readD D x.name = (x.bytes, 0) ∧ syncedOf x.name D = x.synced := by
  obtain ⟨l1, l2, e⟩ := List.append_of_mem (List.mem_of_getElem? hx)
  have hg : getF x.name D = some x := by
    have h : SrtBy Fl.name (l1 ++ x :: l2) := e ▸ hs
    rw [e]; exact getBy_mid h
  exact ⟨by simp [readD, hg], by simp [syncedOf, hg]⟩
theorem qrow_new {v' : Value} {D' : Fls} (h : Sat B (qrow v D :: L) w) (hn : qNew w w' v v' D D') : Sat B (qrow v' D' :: L) w' := by
  rcases hn with hn | ⟨rfl, rfl, hb⟩
  · exact (h.over hn).swap.drop
  · exact h.of_below hb
theorem psame (h : Sat B (disk p room D :: qrow v D :: L) w) (hl : D.length ≤ 1000000) (hu : usedD D ≤ 1099511627776) :
    Calls Tryz.prog 24 #[.pointer (some ⟨p, 0, none⟩), qval (room : Int) v] w fun y w' => y = .returned (.bool true) ∧ Sat B (disk p room D :: qrow v D :: L) w' := by
  have hq := h.swap.q_row
  obtain ⟨a, c, rfl⟩ := hq.len
  have hok := disk_ok h
  obtain ⟨bx, hbx⟩ : ∃ bx, w.heap.size = bx := ⟨_, rfl⟩
  have h1 := (h.alloc' (.cells #[.int .i64 (room : Int), .slice a D.length c] 54) (n := bx) hbx.symm).swap
  have hli := pdList [] h1 hl
  have hno : listD D [] = D.map (·.name) := by simp [listD]
  rw [hno, List.length_map] at hli
  have hF1 := fun (w3 : World) (L' : List HP) (h3 : Sat B (disk p room D :: L') w3) => pdFree h3
  have hF2 := fun (w3 : World) (h3 : qR w3 (.slice a D.length c) D) => pqFree (room := (room : Int)) h3 hl hu ⟨by omega, by have := hok.room; omega⟩
  have hS : ∀ (w' : World) (M : List HP), Sat B (pt bx (.cells #[.int .i64 (room : Int), .slice a D.length c] 54) :: M) w' → w'.cell? ⟨bx, 0, none⟩ = some (.int .i64 (room : Int)) ∧ w'.cell? ⟨bx, 1, none⟩ = some (.slice a D.length c) := fun w' M h => ⟨h.pt_cell 0, h.pt_cell 1⟩
  have Hok := Lib.hid hok
  have Hl := Lib.hid hl
  obtain ⟨u, hue⟩ : ∃ u, usedD D = u := ⟨_, rfl⟩
  rw [hue] at hF1 hF2
  have n0 : (D.length : Int) ≤ 1000000 := by omega
  simp only [qval] at hF2
  clear h hq hok hno hl hu hue
  go_enter Tryz.func24, Tryz.ntmps24
  go_wp2_with fail
  refine hli.mono ?_
  rintro y w2 ⟨nv, rfl, h2⟩
  clear hli h1
  obtain ⟨na, nc, rfl, hrr⟩ := h2.row_reads
  clear hrr
  have h2d := h2.drew
  have h0 := hS _ _ h2d.p2
  go_wp2_with fail
  go_region_held3 (fun w' => w'.cell? ⟨bx, 0, none⟩ = some (.int .i64 (room : Int)) ∧ w'.cell? ⟨bx, 1, none⟩ = some (.slice a D.length c))
    (first | exact h0 | exact hS _ _ h4.p2 | exact hS _ _ h3.p2)
    (first
      | (go_at_call 58; refine (hF1 _ _ h2d.swap).mono ?_; rintro y w3 ⟨rfl, kk, rfl⟩; have h3 := h2.drewN (1 + kk))
      | (go_at_call 59; refine (hF2 _ h3.p3.q_row).mono ?_; rintro y w4 ⟨rfl, hb4⟩; have h4 := h3.of_below hb4))
  clear hF1 hF2 hbx h0 h2d h2
  obtain ⟨n, hn⟩ : ∃ n, D.length = n := ⟨_, rfl⟩
  rw [hn] at h3 h4 hS n0 ⊢
  have Hn := Lib.hid hn
  clear hS hb4 h3 hn
  go_wp2_with fail
  go_loopg [6, 7, 8] (n + 1) (fun gh v6 v7 v8 wr => ∃ i : Nat, i ≤ n ∧ n + 1 ≤ i + gh ∧ v6 = .int .i64 (i : Int) ∧ Sat B (row 9 1 (.slice na n nc) n (strB (D.map fun x => x.name)) :: disk p room D :: pt bx (.cells #[.int .i64 (room : Int), .slice a n c] 54) :: qrow (.slice a n c) D :: L) wr)
  case atStart => exact ⟨0, by omega, by omega, rfl, h4⟩
  case round =>
    obtain ⟨i, hi1, hi2, rfl, h5⟩ := hrel
    clear h4
    by_cases hi : i < n
    · obtain ⟨x, hx⟩ : ∃ x, D[i]? = some x := ⟨_, List.getElem?_eq_getElem (by rw [Hn.out]; exact hi)⟩
      obtain ⟨g, off, c', e, c1, c2, c3⟩ := q_at h5.p3.q_row hx
      rw [Hn.out] at e
      cases e
      obtain ⟨g2, off2, e2, d1, d2⟩ := h5.row_cell i (by omega)
      cases e2
      clear d2
      have d1' : wr.cell? ⟨g2, off2 + i, none⟩ = some (.string (bA x.name)) := by rw [d1]; exact strB_get (by rw [List.getElem?_map, hx]; rfl)
      have x1 : wr.cell? ⟨bx, 1, none⟩ = some (.slice (some ⟨g, off, none⟩) n c) := h5.p2.pt_cell 1
      have hrs := read_at Hok.out.srt hx
      have hR := fun (w3 : World) (L' : List HP) (h3 : Sat B (disk p room D :: L') w3) => pdRead x.name h3
      have hY := fun (w3 : World) (L' : List HP) (h3 : Sat B (disk p room D :: L') w3) => pdSynced x.name h3
      simp only [hrs.1, hrs.2] at hR hY
      have i1 : (i : Int) < (n : Int) := by omega
      clear hrs d1 hx
      go_wp2_with (go_at_call 19; refine (hR _ _ h5.swap).mono ?_; rintro y w6 ⟨rfl, rfl⟩; go_frame)
      go_quiet ((go_at_call 60; exact Calls.quiet_of_same (hY _ _ (h5.swap.drewN _))))
      have h7 := h5.drewN nq
      go_wp2_with fail
      go_roundg (gk - 1)
      case measure => omega
      case rel => exact ⟨i + 1, by omega, by omega, by go_num, h7⟩
    · have e : i = n := by omega
      subst e
      have i1 : ¬ (i : Int) < (i : Int) := by omega
      go_wp2_with fail
      go_ret
      rw [Hn.out]
      exact ⟨rfl, h5.drop.swap.drop⟩
end
end Go.Proofs.YtdngjkjoahgelaaGreatDoor

namespace Go.Proofs.YtdngjkjoahgelaaGreatDoor
set_option linter.all false
set_option maxRecDepth 100000
set_option maxHeartbeats 2000000
open Go.RowKit
abbrev Pair := ByteArray × ByteArray
def pairC (f : Pair) : List Value := [.string f.1, .string f.2]
def begN (f : Pair) : Bt := 119 :: f.1.data.toList.take 20
def begB (f : Pair) : Bt := f.2.data.toList.take 300
def begD (room : Nat) (D : Fls) (fs : List Pair) : Fls := fs.foldl (fun D f => (appendD room D (begN f) (begB f)).2) D
theorem begD_snoc (room : Nat) (D : Fls) (fs : List Pair) (f : Pair) : begD room D (fs ++ [f]) = (appendD room (begD room D fs) (begN f) (begB f)).2 := by
  rw [begD, List.foldl_append]; rfl
theorem used_app_le {room : Nat} {D : Fls} (h : DOk room D) (n d : Bt) (hn : okName n = true) : usedD (appendD room D n d).2 ≤ usedD D + d.length := by
  by_cases hr : usedD D + d.length ≤ room
  · rw [used_append h hn hr]; exact Nat.le_refl _
  · rw [append_full hn (by omega)]; simp
theorem begN_ok (f : Pair) : okName (begN f) = true := by
  have : (f.1.data.toList.take 20).length ≤ 20 := by rw [List.length_take]; omega
  rw [okName, decide_eq_true (show begN f ≠ [] by simp [begN]), decide_eq_true (show (begN f).length ≤ 64 by rw [begN, List.length_cons]; omega)]
  rfl
theorem pairC_get : ∀ {fs : List Pair} {i : Nat} {x : Pair}, fs[i]? = some x → (fs.flatMap pairC)[i * 2]? = some (.string x.1) ∧ (fs.flatMap pairC)[i * 2 + 1]? = some (.string x.2)
  | [], _, _, h => by simp at h
  | y :: fs, 0, x, h => by
    simp at h; subst h
    simp [pairC]
  | y :: fs, i + 1, x, h => by
    have ih := pairC_get (fs := fs) (i := i) (x := x) (by simpa using h)
    have e : ((y :: fs).flatMap pairC) = pairC y ++ fs.flatMap pairC := rfl
    have el : (pairC y).length = 2 := rfl
    rw [e, List.getElem?_append_right (by omega), List.getElem?_append_right (by omega), el,
      show (i + 1) * 2 - 2 = i * 2 by omega, show (i + 1) * 2 + 1 - 2 = i * 2 + 1 by omega]
    exact ih
section
variable {B w w' : World} {L : List HP}
theorem pbegun (room most : Int) (fs : List Pair) (a : Option Addr) (n0 c0 : Nat) (hfl : fs.length = n0) (hr1 : -9223372036854775808 ≤ room) (hr2 : room ≤ 9223372036854775807) (hr : reads B (.slice a n0 c0) n0 (fs.flatMap pairC)) (h : Sat B L w) :
    Calls Tryz.prog 22 #[.agg #[.int .i64 room, .int .i64 most, .slice a n0 c0]] w fun y w' => ∃ p v, y = .returned (.tuple #[.pointer (some ⟨p, 0, none⟩), qval (room.toNat : Int) v]) ∧ Sat B (disk p room.toNat (begD room.toNat [] (fs.take 6)) :: qrow v (begD room.toNat [] (fs.take 6)) :: L) w' := by
  obtain ⟨bx, hbx⟩ : ∃ bx, w.heap.size = bx := ⟨_, rfl⟩
  have h1 := (h.alloc' (.cells #[.int .i64 room, .int .i64 most, .slice a n0 c0] 50) (n := bx) hbx.symm).alloc' (.cells #[.int .i64 0, .slice none 0 0] 54) (n := bx + 1) (by simp [hbx])
  have cD := fun (w : World) (L : List HP) (h : Sat B L w) => pdNew room hr2 h
  have cQ := fun (w : World) => pqNew (w := w) room hr1 hr2
  obtain ⟨rm, hrm⟩ : ∃ rm, room.toNat = rm := ⟨_, rfl⟩
  rw [hrm] at cD cQ ⊢
  have c1 : n0 ≤ 9223372036854775807 := by
    obtain ⟨_, _, e, _, hnc, hc0, _⟩ := hr
    cases e
    unfold maxLen at hc0; omega
  have Hr := Lib.hid hr
  have Hfl := Lib.hid hfl
  have x0 : ∀ (w' : World) (M : List HP), Sat B (pt bx (.cells #[.int .i64 room, .int .i64 most, .slice a n0 c0] 50) :: M) w' → w'.cell? ⟨bx, 0, none⟩ = some (.int .i64 room) ∧ w'.cell? ⟨bx, 2, none⟩ = some (.slice a n0 c0) := fun w' M h => ⟨h.pt_cell 0, h.pt_cell 2⟩
  clear h hr hfl hrm
  obtain ⟨y0, y2⟩ := x0 _ _ h1.swap
  go_enter Tryz.func22, Tryz.ntmps22
  go_wp2_with fail
  refine (cD _ _ h1).mono ?_
  rintro y w2 ⟨p, rfl, h2⟩
  clear y0 y2 h1 cD
  obtain ⟨y0, y2⟩ := x0 _ _ h2.p2
  go_wp2_with fail
  refine (cQ _).mono ?_
  rintro y w3 ⟨rfl, hb3⟩
  have h3 := h2.of_below hb3
  clear y0 y2 cQ hb3 h2
  obtain ⟨b5, hb5⟩ : ∃ b5, w3.heap.size = b5 := ⟨_, rfl⟩
  have h5 := (((h3.row_nil 117 3).alloc' (.cells #[.int .i64 (rm : Int), .slice none 0 0] 54) (n := b5) hb5.symm).swap.p2).swap
  have h5 : Sat B (disk p rm (begD rm [] (fs.take 0)) :: qrow (.slice none 0 0) (begD rm [] (fs.take 0)) :: pt b5 (.cells #[.int .i64 (rm : Int), .slice none 0 0] 54) :: pt (bx + 1) (.cells #[.int .i64 0, .slice none 0 0] 54) :: pt bx (.cells #[.int .i64 room, .int .i64 most, .slice a n0 c0] 50) :: L) _ := h5.swap
  go_wp2_with fail
  generalize w3.alloc _ = w4 at h5 ⊢
  clear h3 hb5
  go_loopg [6, 7, 8] 7 (fun gh v6 v7 v8 wr => ∃ i : Nat, i ≤ n0 ∧ i ≤ 6 ∧ 7 ≤ i + gh ∧ v6 = .int .i64 (i : Int) ∧ ∃ v, Sat B (disk p rm (begD rm [] (fs.take i)) :: qrow v (begD rm [] (fs.take i)) :: pt b5 (.cells #[.int .i64 (rm : Int), v] 54) :: pt (bx + 1) (.cells #[.int .i64 0, .slice none 0 0] 54) :: pt bx (.cells #[.int .i64 room, .int .i64 most, .slice a n0 c0] 50) :: L) wr ∧ (begD rm [] (fs.take i)).length ≤ i ∧ usedD (begD rm [] (fs.take i)) ≤ 300 * i)
  case atStart => exact ⟨0, by omega, by omega, by omega, rfl, _, h5, by simp [begD], by simp [begD, usedD]⟩
  case round =>
    obtain ⟨i, hi1, hi2, hi3, rfl, v, h6, hlen, hus⟩ := hrel
    clear h5
    obtain ⟨y0, y2⟩ := x0 _ _ h6.p4
    obtain ⟨av, nv, cv, rfl⟩ : ∃ av nv cv, v = .slice av nv cv := by obtain ⟨_, _, e⟩ := h6.swap.q_row.len; exact ⟨_, _, _, e⟩
    by_cases hi : i < n0 ∧ i < 6
    · obtain ⟨hia, hib⟩ := hi
      obtain ⟨x, hx⟩ : ∃ x, fs[i]? = some x := ⟨_, List.getElem?_eq_getElem (by rw [Hfl.out]; exact hia)⟩
      obtain ⟨k1, k2⟩ := pairC_get hx
      obtain ⟨_, _, e, _, _, _, hcell⟩ := h6.reads Hr.out
      cases e
      obtain ⟨g, off, rfl, d1⟩ := hcell _ _ k1
      obtain ⟨_, _, e, d2⟩ := hcell _ _ k2
      cases e
      rw [← Nat.add_assoc] at d2
      obtain ⟨D, hD⟩ : ∃ D, begD rm [] (fs.take i) = D := ⟨_, rfl⟩
      have htk : begD rm [] (fs.take (i + 1)) = (appendD rm D (begN x) (begB x)).2 := by
        rw [List.take_add_one, hx, ← hD]; exact begD_snoc ..
      rw [hD] at h6 hlen hus
      have cA : ∀ w, Calls Tryz.prog 11 #[.string x.1, .int .i64 20] w fun y w' => y = .returned (.string (bA (x.1.data.toList.take 20))) ∧ w' = w := fun w => pcut x.1 20 (by omega)
      have cB : ∀ w, Calls Tryz.prog 11 #[.string x.2, .int .i64 300] w fun y w' => y = .returned (.string (bA (begB x))) ∧ w' = w := fun w => pcut x.2 300 (by omega)
      have hN1 : (begN x).length ≤ 64 := by have : (x.1.data.toList.take 20).length ≤ 20 := by { rw [List.length_take]; omega }
                                            rw [begN, List.length_cons]; omega
      have hB1 : (begB x).length ≤ 300 := by rw [begB, List.length_take]; omega
      obtain ⟨t, ht⟩ : ∃ t, x.1.data.toList.take 20 = t := ⟨_, rfl⟩
      have hcat : (⟨#[119]⟩ : ByteArray) ++ bA t = bA (begN x) := by rw [show (⟨#[119]⟩ : ByteArray) = bA [119] from rfl, ba_add, begN, ht]; rfl
      have hzt : ¬ 9223372036854775807 < 1 + t.length := by rw [← ht, List.length_take]; omega
      have hzp : (bA t).size = t.length := bA_size t
      rw [ht] at cA
      have hok := disk_ok h6
      have cP := fun (w : World) (L : List HP) (h : Sat B (disk p rm D :: L) w) => pdAppend (begN x) (begB x) (by omega) (by omega) h
      have cR := fun (w : World) (h : qR w (.slice av nv cv) D) => pqAppend (begN x) (begB x) h hok (by omega) (by omega) (by omega) (by omega)
      have hu2 := used_app_le hok (begN x) (begB x) (begN_ok x)
      have hl2 := len_append rm D (begN x) (begB x)
      have herr : (appendD rm D (begN x) (begB x)).1 ≠ 0 → (appendD rm D (begN x) (begB x)).2 = D := fun h => by
        unfold appendD at h ⊢
        split
        · rfl
        · split
          · rfl
          · rename_i h1 h2; rw [if_neg h1, if_neg h2] at h; exact absurd rfl h
      obtain ⟨rr, hrr⟩ : ∃ rr, appendD rm D (begN x) (begB x) = rr := ⟨_, rfl⟩
      rw [hrr] at cP cR hu2 hl2 herr htk
      obtain ⟨s, hs⟩ : ∃ s, begN x = s := ⟨_, rfl⟩
      obtain ⟨bs, hbs⟩ : ∃ bs, begB x = bs := ⟨_, rfl⟩
      rw [hs] at cP cR hcat
      rw [hbs] at cP cR cB hB1 hu2
      have Htk := Lib.hid htk
      have Herr := Lib.hid herr
      have hia' : (i : Int) < (n0 : Int) := by omega
      have hib' : (i : Int) < 6 := by omega
      clear hcell k1 k2 hx hD htk hN1 ht hok herr hrr hs hbs
      go_wp2_with fail
      go_quiet (first | (go_at_call 11; with_reducible exact Calls.quiet_of_same (cA _)) | (go_at_call 11; with_reducible exact Calls.quiet_of_same (cB _)))
      have h7 := h6.drewN nq
      clear h6 y0 y2 d1 d2 hcat hzt hzp cA cB
      go_wp2_with fail
      refine (cP _ _ h7).mono ?_
      rintro y w6 ⟨rfl, h8⟩
      clear cP h7
      have z0 := h8.p2.pt_cell 0
      have z1 := h8.p2.pt_cell 1
      simp only [List.getElem?_toArray, List.getElem?_cons_zero, List.getElem?_cons_succ] at z0 z1
      go_wp2_with fail
      refine (cR _ h8.swap.q_row).mono ?_
      rintro y w7 ⟨v', rfl, ho⟩
      have h9 := qrow_new h8.swap (ho.new Herr.out)
      clear z0 z1 h8 ho cR
      obtain ⟨av', nv', cv', rfl⟩ : ∃ av nv cv, v' = .slice av nv cv := by obtain ⟨_, _, e⟩ := h9.q_row.len; exact ⟨_, _, _, e⟩
      have z0 := h9.p2.pt_cell 0
      have z1 := h9.p2.pt_cell 1
      have f0 := h9.p2.pt_free 0
      have f1 := h9.p2.pt_free 1
      simp only [List.getElem?_toArray, List.getElem?_cons_zero, List.getElem?_cons_succ] at z0 z1
      have h10 := (h9.p2.set (j := 0) (.int .i64 (rm : Int))).set (j := 1) (.slice av' nv' cv')
      simp only [List.setIfInBounds_toArray, List.set_cons_zero, List.set_cons_succ] at h10
      go_wp2_with fail
      generalize (World.setCell _ _ _).setCell _ _ = w10 at h10 ⊢
      go_roundg (gk - 1)
      case measure => omega
      case rel =>
        refine ⟨i + 1, by omega, by omega, by omega, by go_num, .slice av' nv' cv', ?_⟩
        rw [Htk.out]
        exact ⟨h10.q2.swap, by omega, by omega⟩
    · have hmin : fs.take i = fs.take 6 := by
        by_cases h6 : i = 6
        · rw [h6]
        · rw [List.take_of_length_le (by rw [Hfl.out]; omega), List.take_of_length_le (by rw [Hfl.out]; omega)]
      rw [hmin] at h6
      clear hmin hlen hus
      have z0 := h6.p2.pt_cell 0
      have z1 := h6.p2.pt_cell 1
      have u0 := h6.p3.pt_cell 0
      have u1 := h6.p3.pt_cell 1
      have f0 := h6.p3.pt_free 0
      have f1 := h6.p3.pt_free 1
      simp only [List.getElem?_toArray, List.getElem?_cons_zero, List.getElem?_cons_succ] at z0 z1 u0 u1
      rcases (show ((i : Int) < (n0 : Int) ∧ ¬ (i : Int) < 6) ∨ ¬ (i : Int) < (n0 : Int) by omega) with ⟨b1, b2⟩ | b1
      all_goals
        clear hi
        go_wp2_with fail
        go_region
        have h11 := (h6.p3.set (j := 0) (.int .i64 (rm : Int))).set (j := 1) (.slice av nv cv)
        simp only [List.setIfInBounds_toArray, List.set_cons_zero, List.set_cons_succ] at h11
        have h12 := h11.drew
        generalize (World.setCell _ _ _).setCell _ _ = w11 at h12 ⊢
        have v0 := h12.pt_cell 0
        have v1 := h12.pt_cell 1
        simp only [List.getElem?_toArray, List.getElem?_cons_zero, List.getElem?_cons_succ] at v0 v1
        clear h11 z0 z1 u0 u1 f0 f1 y0 y2
        go_wp2_with fail
        refine bodyPost_ret (v := .tuple #[.pointer (some ⟨p, 0, none⟩), qval (rm : Int) (.slice av nv cv)]) (by simp [results, Tryz.results22, go_sem, v0, v1]) rfl ?_
        exact ⟨p, _, rfl, h12.drop.p2.drop.p2.drop⟩
end
end Go.Proofs.YtdngjkjoahgelaaGreatDoor
