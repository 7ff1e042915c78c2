/-
  WalPlays: the document's log: a disk that is the old one or a new one of one's own; how great disks become. WalPlays: the document's log (acreageref07): anew. WalPlays: the document's log (acreageref07): Sync.
-/
import Derived.Test.YtdngjkjoahgelaaGreatDoorQgA
namespace Go.Proofs.YtdngjkjoahgelaaGreatDoor
set_option linter.all false
set_option maxRecDepth 100000
set_option maxHeartbeats 1000000
open Go.RowKit
theorem len_put (f : Fl) (D : Fls) : (putF f D).length ≤ D.length + 1 := by
  unfold putF
  induction D with
  | nil => exact Nat.le_refl _
  | cons y D ih =>
    rw [putBy]
    split
    · simp
    · split
      · simp
      · simp only [List.length_cons]; omega
theorem len_del (n : Bt) (D : Fls) : (delF n D).length ≤ D.length := List.length_filter_le _ _
theorem len_append (room : Nat) (D : Fls) (n d : Bt) : (appendD room D n d).2.length ≤ D.length + 1 := by
  unfold appendD
  split
  · exact Nat.le_succ _
  · split
    · exact Nat.le_succ _
    · exact len_put _ _
theorem len_put_same {f g : Fl} {D : Fls} (hs : SrtBy Fl.name D) (hg : getF g.name D = some f) : (putF g D).length = D.length := by
  obtain ⟨l1, l2, rfl, hx⟩ := getBy_some hg
  rw [putF, putBy_mid hs hx.symm]; simp
theorem len_sync {D : Fls} (hs : SrtBy Fl.name D) (n : Bt) : (syncD D n).2.length = D.length := by
  unfold syncD
  split
  · rfl
  · rename_i f hg; exact len_put_same (g := ⟨n, f.bytes, f.bytes.length⟩) hs hg
theorem len_remove (D : Fls) (n : Bt) : (removeD D n).2.length ≤ D.length := by
  unfold removeD
  split
  · exact Nat.le_refl _
  · exact len_del _ _
theorem len_renameQ (D : Fls) (n m : Bt) : (renameQ D n m).2.length ≤ D.length + 1 := by
  unfold renameQ
  split
  · exact Nat.le_succ _
  · split
    · exact Nat.le_succ _
    · exact Nat.le_trans (len_put _ _) (Nat.succ_le_succ (len_del _ _))
theorem QD.of {room : Nat} {D : Fls} (h : DOk room D) (hl : D.length ≤ 1000000) (hu : usedD D ≤ 1099511627776) : QD D :=
  ⟨h.srt, hl, fun f hf => Nat.le_trans (h.names f hf) (by omega), hu⟩
theorem q_append_err {room : Nat} {D : Fls} {n d : Bt} (h : (appendD room D n d).1 ≠ 0) : (appendD room D n d).2 = D := by
  unfold appendD at h ⊢
  split
  · rfl
  · split
    · rfl
    · rename_i h1 h2
      rw [if_neg h1, if_neg h2] at h
      exact absurd rfl h
theorem q_sync_err {D : Fls} {n : Bt} (h : (syncD D n).1 ≠ 0) : (syncD D n).2 = D := by
  unfold syncD at h ⊢
  split
  · rfl
  · rename_i f hg; rw [hg] at h; exact absurd rfl h
theorem q_remove_err {D : Fls} {n : Bt} (h : (removeD D n).1 ≠ 0) : (removeD D n).2 = D := by
  unfold removeD at h ⊢
  split
  · rfl
  · rename_i f hg; rw [hg] at h; exact absurd rfl h
theorem q_renameQ_err {D : Fls} {n m : Bt} (h : (renameQ D n m).1 ≠ 0) : (renameQ D n m).2 = D := by
  unfold renameQ at h ⊢
  split
  · rfl
  · rename_i f hg
    rw [hg] at h
    simp only at h
    split
    · rfl
    · rename_i h1; rw [if_neg h1] at h; exact absurd rfl h
section
variable {B w w' wr : World} {L : List HP} {v v' v0 : Value} {D D' D0 : Fls} {r : Int × Fls}
/-- The old files, or files of one's own. -/
def qsrc (v0 : Value) (D0 : Fls) (v : Value) (D : Fls) : HP := fun h => qrow v D h ∨ (v = v0 ∧ D = D0)
/-- What a call has made of files: new ones of its own, or what they were. -/
def qNew (w w' : World) (v v' : Value) (D D' : Fls) : Prop := Sat w (qrow v' D' :: []) w' ∨ (v' = v ∧ D' = D ∧ Below w.heap.size w w')
theorem qNew.below (h : qNew w w' v v' D D') : Below w.heap.size w w' := by
  rcases h with h | ⟨_, _, h⟩
  · exact h.below
  · exact h
theorem qOut.new (h : qOut w w' v v' r) (hr : r.1 ≠ 0 → r.2 = D) : qNew w w' v v' D r.2 := by
  rcases h with ⟨_, h⟩ | ⟨h1, h2, h3⟩
  · exact .inl h
  · exact .inr ⟨h2, hr h1, h3⟩
theorem Sat.src_in (h : Sat B L w) (v0 : Value) (D0 : Fls) : Sat B (qsrc v0 D0 v0 D0 :: L) w :=
  (Sat.fact_in (p := True) trivial h).head fun _ _ => .inr ⟨rfl, rfl⟩
theorem Sat.src_own (h : Sat B (qrow v D :: L) w) : Sat B (qsrc v0 D0 v D :: L) w := h.head fun _ h => .inl h
theorem Sat.src_R (h : Sat B (qsrc v0 D0 v D :: L) w) (h0 : Go.Proofs.YtdngjkjoahgelaaGreatDoor.qR B v0 D0) : Go.Proofs.YtdngjkjoahgelaaGreatDoor.qR w v D := by
  obtain ⟨y, ⟨a, b, hd, ha, hb, hA, hL⟩, h2⟩ := h.own
  rcases hA with hA | ⟨rfl, rfl⟩
  · have : Sat B (qrow v D :: L) w := ⟨h.os, h.tape, h.output, h.size, h.old, y, ⟨a, b, hd, ha, hb, hA, hL⟩, h2⟩
    exact this.q_row
  · exact h.qR h0
theorem Sat.src_new (h : Sat B (qsrc v0 D0 v D :: L) w) (hn : qNew w w' v v' D D') : Sat B (qsrc v0 D0 v' D' :: L) w' := by
  rcases hn with hn | ⟨rfl, rfl, hb⟩
  · exact (h.over hn).src_own.swap.drop
  · exact h.of_below hb
theorem Sat.src_out (h : Sat B (qsrc v0 D0 v D :: []) w) : qNew B w v0 v D0 D := by
  obtain ⟨y, ⟨a, b, hd, ha, hb, hA, hL⟩, h2⟩ := h.own
  rcases hA with hA | ⟨rfl, rfl⟩
  · exact .inl ⟨h.os, h.tape, h.output, h.size, h.old, y, ⟨a, b, hd, ha, hb, hA, hL⟩, h2⟩
  · exact .inr ⟨rfl, rfl, h.below⟩
end
/-- 'anew' as the document has it. -/
def anewQ (room : Nat) (D : Fls) (p : Bt) (n : Nat) (bytes : Bt) : Int × Fls :=
  if (appendD room (removeD D (tmpW p)).2 (tmpW p) bytes).1 = 0 then (0, (renameQ (syncD (appendD room (removeD D (tmpW p)).2 (tmpW p) bytes).2 (tmpW p)).2 (tmpW p) (nameW p n)).2)
  else ((appendD room (removeD D (tmpW p)).2 (tmpW p) bytes).1, (removeD D (tmpW p)).2)
end Go.Proofs.YtdngjkjoahgelaaGreatDoor

namespace Go.Proofs.YtdngjkjoahgelaaGreatDoor
set_option linter.all false
set_option maxRecDepth 100000
set_option maxHeartbeats 2000000
open Go.RowKit
section
variable {B w w' : World} {L : List HP} {room : Nat} {most : Int} {D : Fls} {v : Value} {p : Bt}
theorem pqanew (n : Nat) (bytes : Bt) (hq : qR w v D) (hD : DOk room D) (hl : D.length ≤ 999990) (hu : usedD D + bytes.length ≤ 1099511627776) (hn : inR n) (hp : p.length ≤ 48) :
    Calls Tryz.prog 57 #[wval (room : Int) v p most, .int .u64 (n : Int), .string (bA bytes)] w fun y w' => ∃ v', y = .returned (.tuple #[wval (room : Int) v' p most, .int .i64 (anewQ room D p n bytes).1]) ∧ qNew w w' v v' D (anewQ room D p n bytes).2 := by
  obtain ⟨a, c, rfl⟩ := hq.len
  obtain ⟨bx, hbx⟩ : ∃ bx, w.heap.size = bx := ⟨_, rfl⟩
  have h1 := ((((Sat.start w).alloc' (.cells #[.int .i64 (room : Int), .slice a D.length c, .string (bA p), .int .i64 most] 58) (n := bx) hbx.symm).alloc' (.cells #[.int .i64 0, .slice none 0 0, .string ⟨#[]⟩, .int .i64 0] 58) (n := bx + 1) (by simp [hbx])).src_in (.slice a D.length c) D)
  obtain ⟨tm, htm⟩ : ∃ tm, tmpW p = tm := ⟨_, rfl⟩
  have htl : tm.length ≤ 1000000 := by rw [← htm]; simp [tmpW]; omega
  have hcat : bA p ++ (⟨#[116, 109, 112]⟩ : ByteArray) = bA tm := by rw [← htm, tmpW, ← bA_app]
  have hnl : (nameW p n).length ≤ 1000000 := by rw [name_len hn]; omega
  have hn16 : n < 10 ^ 16 := by have := hn.2; omega
  have hzp : (bA p).size = p.length := bA_size p
  have p1 : (p.length : Int) ≤ 48 := by omega
  -- the disks
  obtain ⟨D1, hD1⟩ : ∃ D1, (removeD D tm).2 = D1 := ⟨_, rfl⟩
  have ok1 : DOk room D1 := by rw [← hD1]; exact hD.remove tm
  have l1 : D1.length ≤ 999990 := by rw [← hD1]; exact Nat.le_trans (len_remove D tm) hl
  have u1 : usedD D1 + bytes.length ≤ 1099511627776 := by have := used_remove_le (m := tm) hD; rw [hD1] at this; omega
  obtain ⟨e2, D2, hD2⟩ : ∃ e2 D2, appendD room D1 tm bytes = (e2, D2) := ⟨_, _, rfl⟩
  have ok2 : DOk room D2 := by have := ok1.append tm bytes; rw [hD2] at this; exact this
  have l2 : D2.length ≤ 999991 := by have := len_append room D1 tm bytes; rw [hD2] at this; simp only at this; omega
  obtain ⟨D3, hD3⟩ : ∃ D3, (syncD D2 tm).2 = D3 := ⟨_, rfl⟩
  have ok3 : DOk room D3 := by rw [← hD3]; exact ok2.sync' tm
  have l3 : D3.length ≤ 999991 := by rw [← hD3, len_sync ok2.srt]; exact l2
  obtain ⟨D4, hD4⟩ : ∃ D4, (renameQ D3 tm (nameW p n)).2 = D4 := ⟨_, rfl⟩
  have cR := fun (w3 : World) (hb : Below w.heap.size w w3) => pqRemove (room := (room : Int)) (w := w3) tm (hq.up hb) hD.srt (by omega)
  have cA := fun (w3 : World) (v3 : Value) (h3 : qR w3 v3 D1) => pqAppend (w := w3) (v := v3) tm bytes h3 ok1 (by omega) (by omega) htl (by omega)
  have cS := fun (w3 : World) (v3 : Value) (h3 : qR w3 v3 D2) => pqSync (room := (room : Int)) (w := w3) (v := v3) tm h3 ok2.srt (by omega)
  have cM := fun (w3 : World) (v3 : Value) (h3 : qR w3 v3 D3) => pqRename (room := (room : Int)) (w := w3) (v := v3) tm (nameW p n) h3 ok3.srt (by omega) hnl
  have cN := fun (w3 : World) => pqName (w := w3) p n hn16 (by omega)
  have er : (removeD D tm).1 ≠ 0 → D1 = D := fun h => by rw [← hD1]; exact q_remove_err h
  have ea : e2 ≠ 0 → D2 = D1 := fun h => by have := q_append_err (room := room) (D := D1) (n := tm) (d := bytes); rw [hD2] at this; exact this h
  have es : (syncD D2 tm).1 ≠ 0 → D3 = D2 := fun h => by rw [← hD3]; exact q_sync_err h
  have em : (renameQ D3 tm (nameW p n)).1 ≠ 0 → D4 = D3 := fun h => by rw [← hD4]; exact q_renameQ_err h
  have hres : anewQ room D p n bytes = if e2 = 0 then (0, D4) else (e2, D1) := by rw [anewQ, htm, hD1, hD2]; simp only [hD3, hD4]
  obtain ⟨e1, he1⟩ : ∃ e1, (removeD D tm).1 = e1 := ⟨_, rfl⟩
  obtain ⟨e3, he3⟩ : ∃ e3, (syncD D2 tm).1 = e3 := ⟨_, rfl⟩
  obtain ⟨e4, he4⟩ : ∃ e4, (renameQ D3 tm (nameW p n)).1 = e4 := ⟨_, rfl⟩
  obtain ⟨nm, hnm⟩ : ∃ nm, nameW p n = nm := ⟨_, rfl⟩
  have q1 : removeD D tm = (e1, D1) := by rw [← he1, ← hD1]
  have q3 : syncD D2 tm = (e3, D3) := by rw [← he3, ← hD3]
  rw [hnm] at cM cN em he4 hD4 hnl
  have q4 : renameQ D3 tm nm = (e4, D4) := by rw [← he4, ← hD4]
  simp only [q1, hD2, q3, q4] at cR cA cS cM er es em
  have Hres := Lib.hid hres
  have Hq := Lib.hid hq
  clear hq hD hl hu hn hp htm htl hnl hn16 hD1 ok1 l1 u1 hD2 ok2 l2 hD3 ok3 l3 hD4 hres he1 he3 he4 hnm q1 q3 q4
  go_enter Tryz.func57, Tryz.ntmps57
  go_wp2_with fail
  refine (cR _ h1.below).mono ?_
  rintro y w2 ⟨v2, rfl, ho2⟩
  have h2 := h1.src_new (ho2.new er)
  clear ho2 h1
  obtain ⟨a2, c2, rfl⟩ := (h2.src_R Hq.out).len
  have x0 := h2.p2.pt_cell 0
  have x1 := h2.p2.pt_cell 1
  have f0 := h2.p2.pt_free 0
  have f1 := h2.p2.pt_free 1
  simp only [List.getElem?_toArray, List.getElem?_cons_zero, List.getElem?_cons_succ] at x0 x1
  go_wp2_with fail
  have h3 := (h2.p2.set (j := 0) (.int .i64 (room : Int))).set (j := 1) (.slice a2 D1.length c2)
  simp only [List.setIfInBounds_toArray, List.set_cons_zero, List.set_cons_succ] at h3
  generalize (World.setCell _ _ _).setCell _ _ = w3 at h3 ⊢
  clear x0 x1 f0 f1 h2
  refine (cA w3 _ (h3.swap.src_R Hq.out)).mono ?_
  rintro y w4 ⟨v4, rfl, ho4⟩
  clear cA cR
  by_cases he : e2 = 0
  · subst he
    have h4 := h3.swap.src_new (ho4.new (D := D1) ea)
    clear h3 ho4
    obtain ⟨a4, c4, rfl⟩ := (h4.src_R Hq.out).len
    have hb4 := h4.swap.pt_lt
    have h5 := h4.alloc' (.cells #[.int .i64 (room : Int), .slice a4 D2.length c4] 54) (n := w4.heap.size) rfl
    go_wp2_with fail
    refine (cS _ _ (h5.swap.src_R Hq.out)).mono ?_
    rintro y w5 ⟨v5, rfl, ho5⟩
    have h6 := h5.swap.src_new (ho5.new es)
    clear h5 h4 ho5 cS
    generalize w4.heap.size = b9 at h6 ⊢
    obtain ⟨a5, c5, rfl⟩ := (h6.src_R Hq.out).len
    have x0 := h6.swap.pt_cell 0
    have x1 := h6.swap.pt_cell 1
    have f0 := h6.swap.pt_free 0
    have f1 := h6.swap.pt_free 1
    simp only [List.getElem?_toArray, List.getElem?_cons_zero, List.getElem?_cons_succ] at x0 x1
    go_wp2_with fail
    have h7 := (h6.swap.set (j := 0) (.int .i64 (room : Int))).set (j := 1) (.slice a5 D3.length c5)
    simp only [List.setIfInBounds_toArray, List.set_cons_zero, List.set_cons_succ] at h7
    generalize (World.setCell _ _ _).setCell _ _ = w7 at h7 ⊢
    have hS : ∀ (w' : World) (L' : List HP), Sat w (pt b9 (.cells #[.int .i64 (room : Int), .slice a5 D3.length c5] 54) :: qsrc (.slice a D.length c) D (.slice a5 D3.length c5) D3 :: pt bx (.cells #[.int .i64 (room : Int), .slice a2 D1.length c2, .string (bA p), .int .i64 most] 58) :: L') w' → w'.cell? ⟨b9, 0, none⟩ = some (.int .i64 (room : Int)) ∧ w'.cell? ⟨b9, 1, none⟩ = some (.slice a5 D3.length c5) ∧ w'.cell? ⟨bx, 2, none⟩ = some (.string (bA p)) := fun w' L' h => ⟨h.pt_cell 0, h.pt_cell 1, h.p2.pt_cell 2⟩
    have h7d := h7.drew
    obtain ⟨x0, x1, x2⟩ := hS _ _ h7d
    clear h6 f0 f1 hb4
    go_region_law (first
      | (go_simp; go_at_call 54; refine (cN _).mono ?_; rintro y w8 ⟨rfl, hb8⟩; have h8 := h7d.of_below hb8; obtain ⟨y0, y1, y2⟩ := hS _ _ h8)
      | (go_simp; go_at_call 87; refine (cM _ _ (h8.swap.src_R Hq.out)).mono ?_; rintro y w9 ⟨v9, rfl, ho9⟩; have h9 := h8.swap.src_new (ho9.new em); clear ho9; simp only at h9; obtain ⟨a9, c9, rfl⟩ := (h9.src_R Hq.out).len; have z0 := h9.swap.pt_cell 0; have z1 := h9.swap.pt_cell 1; have f0 := h9.swap.pt_free 0; have f1 := h9.swap.pt_free 1; simp only [List.getElem?_toArray, List.getElem?_cons_zero, List.getElem?_cons_succ] at z0 z1))
    all_goals
      have h10 := (h9.swap.set (j := 0) (.int .i64 (room : Int))).set (j := 1) (.slice a9 D4.length c9)
      simp only [List.setIfInBounds_toArray, List.set_cons_zero, List.set_cons_succ] at h10
      generalize (World.setCell _ _ _).setCell _ _ = w10 at h10 ⊢
      clear h7 h7d h8 h9 x0 x1 x2 y0 y1 y2 z0 z1 f0 f1
      have x0 := h10.pt_cell 0
      have x1 := h10.pt_cell 1
      have y0 := h10.p2.pt_cell 0
      have y1 := h10.p2.pt_cell 1
      have y2 := h10.p2.pt_cell 2
      have y3 := h10.p2.pt_cell 3
      have f0 := h10.p2.pt_free 0
      have f1 := h10.p2.pt_free 1
      have z0 := h10.p3.pt_cell 0
      have z1 := h10.p3.pt_cell 1
      have z2 := h10.p3.pt_cell 2
      have z3 := h10.p3.pt_cell 3
      have g0 := h10.p3.pt_free 0
      have g1 := h10.p3.pt_free 1
      have g2 := h10.p3.pt_free 2
      have g3 := h10.p3.pt_free 3
      simp only [List.getElem?_toArray, List.getElem?_cons_zero, List.getElem?_cons_succ] at x0 x1 y0 y1 y2 y3 z0 z1 z2 z3
      go_wp2_with fail
      have h11 := (h10.p2.set (j := 0) (.int .i64 (room : Int))).set (j := 1) (.slice a9 D4.length c9)
      have h12 := (((h11.p3.set (j := 0) (.int .i64 (room : Int))).set (j := 1) (.slice a9 D4.length c9)).set (j := 2) (.string (bA p))).set (j := 3) (.int .i64 most)
      generalize World.setCell (World.setCell (World.setCell (World.setCell (World.setCell (World.setCell _ _ _) _ _) _ _) _ _) _ _) _ _ = wz at h12 ⊢
      have k0 := h12.pt_cell 0
      have k1 := h12.pt_cell 1
      have k2 := h12.pt_cell 2
      have k3 := h12.pt_cell 3
      simp only [List.setIfInBounds_toArray, List.set_cons_zero, List.set_cons_succ, List.getElem?_toArray, List.getElem?_cons_zero, List.getElem?_cons_succ] at k0 k1 k2 k3
      refine bodyPost_ret (v := .tuple #[wval (room : Int) (.slice a9 D4.length c9) p most, .int .i64 0]) (by simp [results, Tryz.results57, go_sem, k0, k1, k2, k3]) rfl ?_
      rw [Hres.out, if_pos trivial]
      exact ⟨_, rfl, h12.drop.drop.drop.src_out⟩
  · obtain ⟨rfl, hb4⟩ : v4 = .slice a2 D1.length c2 ∧ Below w3.heap.size w3 w4 := by
      rcases ho4 with ⟨h, _⟩ | ⟨_, h, h'⟩
      · exact absurd h he
      · exact ⟨h, h'⟩
    have h4 := h3.of_below hb4
    clear h3 ho4
    have x0 := h4.pt_cell 0
    have x1 := h4.pt_cell 1
    have x2 := h4.pt_cell 2
    have x3 := h4.pt_cell 3
    have y0 := h4.p2.pt_cell 0
    have y1 := h4.p2.pt_cell 1
    have y2 := h4.p2.pt_cell 2
    have y3 := h4.p2.pt_cell 3
    have z0 := h4.p2.pt_free 0
    have z1 := h4.p2.pt_free 1
    have z2 := h4.p2.pt_free 2
    have z3 := h4.p2.pt_free 3
    have b1 := h4.pt_lt
    have b2 := h4.p2.pt_lt
    have hne : (e2 == 0) = false := by simpa using he
    have hne' : (e2 != 0) = true := by simpa using he
    simp only [List.getElem?_toArray, List.getElem?_cons_zero, List.getElem?_cons_succ] at x0 x1 x2 x3 y0 y1 y2 y3
    go_wp2_with fail
    have h5 := (((((h4.p2.set (j := 0) (.int .i64 (room : Int))).set (j := 1) (.slice a2 D1.length c2)).set (j := 2) (.string (bA p))).set (j := 3) (.int .i64 most)).alloc (.cells #[.int .i64 (room : Int), .slice a2 D1.length c2] 54)).swap
    generalize World.alloc _ _ = wz at h5 ⊢
    have k0 := h5.pt_cell 0
    have k1 := h5.pt_cell 1
    have k2 := h5.pt_cell 2
    have k3 := h5.pt_cell 3
    simp only [List.setIfInBounds_toArray, List.set_cons_zero, List.set_cons_succ, List.getElem?_toArray, List.getElem?_cons_zero, List.getElem?_cons_succ] at k0 k1 k2 k3
    refine bodyPost_ret (v := .tuple #[wval (room : Int) (.slice a2 D1.length c2) p most, .int .i64 e2]) (by simp [results, Tryz.results57, go_sem, k0, k1, k2, k3]) rfl ?_
    rw [Hres.out, if_neg he]
    exact ⟨_, rfl, h5.drop.drop.drop.src_out⟩
end
end Go.Proofs.YtdngjkjoahgelaaGreatDoor

namespace Go.Proofs.YtdngjkjoahgelaaGreatDoor
set_option linter.all false
set_option maxRecDepth 100000
set_option maxHeartbeats 2000000
open Go.RowKit
def syncQ (D : Fls) (p : Bt) : Fls := match (numsW D p).getLast? with
  | none => D
  | some l => (syncD D (nameW p l)).2
section
variable {B w w' : World} {L : List HP} {room most : Int} {D : Fls} {v : Value} {p : Bt}
theorem pqSyncW (hq : qR w v D) (hD : QD D) (hp : p.length ≤ 48) :
    Calls Tryz.prog 26 #[wval room v p most] w fun y w' => ∃ v', y = .returned (wval room v' p most) ∧ qNew w w' v v' D (syncQ D p) := by
  obtain ⟨a, c, rfl⟩ := hq.len
  obtain ⟨bx, hbx⟩ : ∃ bx, w.heap.size = bx := ⟨_, rfl⟩
  have h1 := ((((Sat.start w).alloc' (.cells #[.int .i64 room, .slice a D.length c, .string (bA p), .int .i64 most] 58) (n := bx) hbx.symm).alloc' (.cells #[.int .i64 0, .slice none 0 0, .string ⟨#[]⟩, .int .i64 0] 58) (n := bx + 1) (by simp [hbx])).src_in (.slice a D.length c) D)
  have hF := pqFiles (room := room) (most := most) (p := p) (h1.qR hq) hD.len (by omega) hD.names
  obtain ⟨l, hl⟩ : ∃ l, numsW D p = l := ⟨_, rfl⟩
  have hin : ∀ n ∈ l, inR n := fun n h => nums_inR (D := D) (p := p) (by rw [hl]; exact h)
  have hnl := nums_len hD p
  have hzp : (bA p).size = p.length := bA_size p
  have p1 : (p.length : Int) ≤ 48 := by omega
  rw [hl] at hF hnl
  have Hq := Lib.hid hq
  have HD := Lib.hid hD
  have Hl := Lib.hid hl
  clear hq hD hl
  go_enter Tryz.func26, Tryz.ntmps26
  go_wp2_with fail
  refine hF.mono ?_
  rintro y w2 ⟨lv, rfl, hs2⟩
  have h2 := h1.over hs2
  clear hF h1 hs2
  by_cases hnil : l = []
  · subst hnil
    obtain ⟨la, lc, rfl, _⟩ := h2.row_reads
    have hsq : syncQ D p = D := by rw [syncQ, Hl.out]; rfl
    have Hsq := Lib.hid hsq
    have x0 := h2.p3.pt_cell 0
    have x1 := h2.p3.pt_cell 1
    have x2 := h2.p3.pt_cell 2
    have x3 := h2.p3.pt_cell 3
    have y0 := h2.p2.pt_cell 0
    have y1 := h2.p2.pt_cell 1
    have y2 := h2.p2.pt_cell 2
    have y3 := h2.p2.pt_cell 3
    have z0 := h2.p2.pt_free 0
    have z1 := h2.p2.pt_free 1
    have z2 := h2.p2.pt_free 2
    have z3 := h2.p2.pt_free 3
    simp only [List.getElem?_toArray, List.getElem?_cons_zero, List.getElem?_cons_succ] at x0 x1 x2 x3 y0 y1 y2 y3
    clear hsq
    go_wp2_with fail
    have h5 := (((h2.p2.set (j := 0) (.int .i64 room)).set (j := 1) (.slice a D.length c)).set (j := 2) (.string (bA p))).set (j := 3) (.int .i64 most)
    generalize World.setCell (World.setCell (World.setCell (World.setCell _ _ _) _ _) _ _) _ _ = wz at h5 ⊢
    have k0 := h5.pt_cell 0
    have k1 := h5.pt_cell 1
    have k2 := h5.pt_cell 2
    have k3 := h5.pt_cell 3
    simp only [List.setIfInBounds_toArray, List.set_cons_zero, List.set_cons_succ, List.getElem?_toArray, List.getElem?_cons_zero, List.getElem?_cons_succ] at k0 k1 k2 k3
    refine bodyPost_ret (v := wval room (.slice a D.length c) p most) (by simp [results, Tryz.results26, go_sem, k0, k1, k2, k3]) rfl ?_
    rw [Hsq.out]
    exact ⟨_, rfl, h5.drop.drop.swap.drop.src_out⟩
  · obtain ⟨n, hn⟩ : ∃ n, l.length = n + 1 := ⟨l.length - 1, by have := List.length_pos_iff.2 hnil; omega⟩
    obtain ⟨x, hx⟩ : ∃ x, l[n]? = some x := ⟨_, List.getElem?_eq_getElem (by omega)⟩
    have hlast : l.getLast? = some x := by rw [List.getLast?_eq_getElem?, hn]; exact hx
    have hxr := hin x (List.mem_of_getElem? hx)
    obtain ⟨la, lc, e, hlr⟩ := h2.row_reads
    subst e
    obtain ⟨g, off, e, _⟩ := h2.row_cell n (by omega)
    subst e
    obtain ⟨e3, D3, q3⟩ : ∃ e3 D3, syncD D (nameW p x) = (e3, D3) := ⟨_, _, rfl⟩
    have hsq : syncQ D p = D3 := by rw [syncQ, Hl.out, hlast]; simp only [q3]
    have Hsq := Lib.hid hsq
    obtain ⟨nm, hnm⟩ : ∃ nm, nameW p x = nm := ⟨_, rfl⟩
    have cN := fun (w3 : World) => pqName (w := w3) p x (by have := hxr.2; omega) (by omega)
    have cS := fun (w3 : World) (v3 : Value) (h3 : qR w3 v3 D) => pqSync (room := room) (w := w3) (v := v3) nm h3 HD.out.srt HD.out.len
    rw [hnm] at cN q3
    have es : e3 ≠ 0 → D3 = D := fun h => by have := q_sync_err (D := D) (n := nm); rw [q3] at this; exact this h
    simp only [q3] at cS
    have Hlen := Lib.hid hn
    have hS : ∀ (w' : World) (L' : List HP), Sat w (row 35 1 (.slice (some ⟨g, off, none⟩) l.length lc) l.length (u64s l) :: pt bx (.cells #[.int .i64 room, .slice a D.length c, .string (bA p), .int .i64 most] 58) :: L') w' → w'.cell? ⟨g, off + n, none⟩ = some (.int .u64 (x : Int)) ∧ w'.cell? ⟨bx, 0, none⟩ = some (.int .i64 room) ∧ w'.cell? ⟨bx, 1, none⟩ = some (.slice a D.length c) ∧ w'.cell? ⟨bx, 2, none⟩ = some (.string (bA p)) := fun w' L' h => by
      obtain ⟨g', off', e, c1, _⟩ := h.row_cell n (by omega)
      cases e
      exact ⟨by rw [c1]; exact u64s_get hx, h.swap.pt_cell 0, h.swap.pt_cell 1, h.swap.pt_cell 2⟩
    have n1 : (n : Int) ≤ 1000000 := by omega
    -- the row, the box, then the rest
    have h3 : Sat w (row 35 1 (.slice (some ⟨g, off, none⟩) l.length lc) l.length (u64s l) :: pt bx _ :: qsrc _ D _ D :: pt (bx + 1) _ :: []) w2 := h2.p3.swap
    have h3d := h3.drew
    obtain ⟨x0, x1, x2, x3⟩ := hS _ _ h3d
    rw [hn] at hnl h3 h3d ⊢
    rw [hn] at hS
    have j1 : IntKind.i64.wrap ((n : Int) + 1 - 1) = (n : Int) := by rw [i64_id2 (by omega) (by omega)]; omega
    have j2 : (n : Int) < (n : Int) + 1 := by omega
    have j3 : (n : Int) + 1 - 1 = (n : Int) := by omega
    have j4 : IntKind.i64.wrap (n : Int) = (n : Int) := i64_id2 (by omega) (by omega)
    clear h2 hsq hlast hx hlr hin q3 hnm hn hnil
    go_wp2_with fail
    go_region_law (first
      | (go_simp; go_at_call 54; refine (cN _).mono ?_; rintro y w8 ⟨rfl, hb8⟩; have h8 := h3d.of_below hb8; obtain ⟨y0, y1, y2, y3⟩ := hS _ _ h8)
      | (go_simp; go_at_call 62; refine (cS _ _ (h8.p2.src_R Hq.out)).mono ?_; rintro y w9 ⟨v9, rfl, ho9⟩; have h9 := h8.p2.src_new (ho9.new es); clear ho9; simp only at h9; obtain ⟨a9, c9, rfl⟩ := (h9.src_R Hq.out).len; have z0 := h9.p2.pt_cell 0; have z1 := h9.p2.pt_cell 1; have f0 := h9.p2.pt_free 0; have f1 := h9.p2.pt_free 1; simp only [List.getElem?_toArray, List.getElem?_cons_zero, List.getElem?_cons_succ] at z0 z1))
    all_goals
      have h10 := (h9.p2.set (j := 0) (.int .i64 room)).set (j := 1) (.slice a9 D3.length c9)
      simp only [List.setIfInBounds_toArray, List.set_cons_zero, List.set_cons_succ] at h10
      generalize (World.setCell _ _ _).setCell _ _ = w10 at h10 ⊢
      clear h3 h3d h8 h9 x0 x1 x2 x3 y0 y1 y2 y3 z0 z1 f0 f1
      have y0 := h10.pt_cell 0
      have y1 := h10.pt_cell 1
      have y2 := h10.pt_cell 2
      have y3 := h10.pt_cell 3
      have z0 := h10.p3.pt_cell 0
      have z1 := h10.p3.pt_cell 1
      have z2 := h10.p3.pt_cell 2
      have z3 := h10.p3.pt_cell 3
      have g0 := h10.p3.pt_free 0
      have g1 := h10.p3.pt_free 1
      have g2 := h10.p3.pt_free 2
      have g3 := h10.p3.pt_free 3
      simp only [List.getElem?_toArray, List.getElem?_cons_zero, List.getElem?_cons_succ] at y0 y1 y2 y3 z0 z1 z2 z3
      go_wp2_with fail
      have h12 := (((h10.p3.set (j := 0) (.int .i64 room)).set (j := 1) (.slice a9 D3.length c9)).set (j := 2) (.string (bA p))).set (j := 3) (.int .i64 most)
      generalize World.setCell (World.setCell (World.setCell (World.setCell _ _ _) _ _) _ _) _ _ = wz at h12 ⊢
      have k0 := h12.pt_cell 0
      have k1 := h12.pt_cell 1
      have k2 := h12.pt_cell 2
      have k3 := h12.pt_cell 3
      simp only [List.setIfInBounds_toArray, List.set_cons_zero, List.set_cons_succ, List.getElem?_toArray, List.getElem?_cons_zero, List.getElem?_cons_succ] at k0 k1 k2 k3
      refine bodyPost_ret (v := wval room (.slice a9 D3.length c9) p most) (by simp [results, Tryz.results26, go_sem, k0, k1, k2, k3]) rfl ?_
      rw [Hsq.out]
      exact ⟨_, rfl, h12.drop.drop.swap.drop.src_out⟩
end
end Go.Proofs.YtdngjkjoahgelaaGreatDoor
