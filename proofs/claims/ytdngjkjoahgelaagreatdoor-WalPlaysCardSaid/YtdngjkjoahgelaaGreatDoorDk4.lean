/-
  disk: Remove, Rename, New: contracts.
-/
import Derived.Test.YtdngjkjoahgelaaGreatDoorDkA
namespace Go.Proofs.YtdngjkjoahgelaaGreatDoor
set_option linter.all false
set_option maxRecDepth 100000
set_option maxHeartbeats 1000000
open Go.RowKit
section
variable {B w w' : World} {L M : List HP} {A0 A1 : HP} {p room mb a b u : Nat} {D : Fls} {E E1 E2 F1 F2 : List (Nat × Fl)} {f g x : Fl} {n m : Bt}
theorem remove_close (hE : (E1 ++ (a, f) :: E2).map (·.2) = D) (hok : DOk room D) (hg : getF n D = some f)
    (h : Sat B (pt p (dkC room u mb) :: smap mb (kvE (E1 ++ E2)) :: stars ((E1 ++ (a, f) :: E2).map flP) :: L) w) (hu : usedD D - f.bytes.length = u) : Sat B (disk p room (removeD D n).2 :: L) w := by
  have hr : removeD D n = (0, delF n D) := by simp [removeD, hg]
  have hn : f.name = n := by simpa using List.find?_some hg
  have hd := hok.remove n
  have hus := used_del hok.srt hg
  rw [hr] at hd ⊢
  have hD : (E1 ++ E2).map (·.2) = delF n D := by
    subst hE; subst hn
    have := hok.srt
    rw [List.map_append, List.map_cons] at this
    rw [List.map_append, delF, List.map_append, List.map_cons]
    exact (delBy_mid this).symm
  refine disk_close (E := E1 ++ E2) (mb := mb) hD hd ?_
  have h1 := (file_out h).drop.p2.p2
  rw [show usedD (delF n D) = u by omega]
  exact h1
/-- 'Remove'. -/
theorem pdRemove (n : Bt) (h : Sat B (disk p room D :: L) w) :
    Calls Tryz.prog 33 #[.pointer (some ⟨p, 0, none⟩), .string (bA n)] w fun y w' => y = .returned (.int .i64 (removeD D n).1) ∧ Sat B (disk p room (removeD D n).2 :: L) w' := by
  obtain ⟨mb, E, hE, hok, h1⟩ := disk_open h
  cases hg : getF n D with
  | none =>
    have ho := pof_none h1 (kv_none hE hg)
    have H : Hid (removeD D n = (5, D)) := Lib.hid (by simp [removeD, hg])
    clear hg hE hok h1
    go_enter Tryz.func33, Tryz.ntmps33
    go_wp2_with (go_at_call 46; refine ho.mono ?_; rintro y w1 ⟨rfl, rfl⟩)
    go_ret
    rw [H.out]
    exact ⟨rfl, h⟩
  | some f =>
    obtain ⟨E1, E2, a, rfl, hn⟩ := at_file hE hg
    have ho := pof_some (D := D) h1 (List.mem_append_right E1 (List.mem_cons_self (a := (a, f)) (l := E2))) hn
    have H : Hid ((removeD D n).1 = 0) := Lib.hid (by simp [removeD, hg])
    have hfl := getF_len hok hg
    have hs := bA_size f.bytes
    have hu := used_del hok.srt hg
    have hur := hok.used
    have hrm := hok.room
    have hb : f.bytes.length ≤ usedD D := by omega
    have hcl := fun (w9 : World) => remove_close (L := L) (p := p) (a := a) (mb := mb) (u := usedD D - f.bytes.length) (w := w9) (B := B) hE hok hg
    have hper : (kvE (E1 ++ E2)).Perm ((kvE (E1 ++ (a, f) :: E2)).filter (·.1 != n)) := by rw [← hn, kv_filter (srtE hE hok.srt)]
    have c1 : w.cell? ⟨p, 1, none⟩ = some (.int .i64 (usedD D : Int)) := h1.pt_cell 1
    have f1 := h1.pt_free 1
    have c2 : w.cell? ⟨p, 2, none⟩ = some (.map (some mb)) := h1.pt_cell 2
    have c0 : w.cell? ⟨a, 0, none⟩ = some (.string (bA f.bytes)) := (file_out h1).pt_cell 0
    clear hg hE hok hn h
    go_enter Tryz.func33, Tryz.ntmps33
    go_wp2_with (go_at_call 46; refine ho.mono ?_; rintro y w1 ⟨rfl, rfl⟩)
    go_region
    have e : ((usedD D : Int) - (f.bytes.length : Int)) = ((usedD D - f.bytes.length : Nat) : Int) := by omega
    have h5 := (h1.set (j := 1) (.int .i64 ((usedD D : Int) - (f.bytes.length : Int)))).drew
    generalize (w1.setCell _ _).drew = w3 at h5 ⊢
    rw [e] at h5
    have c3 : w3.cell? ⟨p, 2, none⟩ = some (.map (some mb)) := h5.pt_cell 2
    clear e c1 c2 f1 c0 ho h1
    go_wp2_with (at_delete; refine wpList_delete rfl Tryz.underlying72 Tryz.underlying9 _ _ _ rfl rfl rfl h5.swap _ hper ?_; intro w6 h6; go_frame)
    go_ret
    rw [H.out]
    exact ⟨rfl, hcl _ h6.swap trivial⟩
/-- A file put where its name has none. -/
theorem put_new (hE : E.map (·.2) = D) (hs : SrtBy Fl.name D) (hok : DOk room (putF x D)) (hg : getF x.name D = none) (hu : usedD (putF x D) = u)
    (h : Sat B (pt a (flC x) :: pt p (dkC room u mb) :: smap mb ((x.name, .pointer (some ⟨a, 0, none⟩)) :: kvE E) :: stars (E.map flP) :: L) w) : Sat B (disk p room (putF x D) :: L) w := by
  have hsE := srtE hE hs
  have hgE : ∀ y ∈ E, enm y ≠ x.name := fun y hy => getBy_none hg y.2 (by rw [← hE]; exact List.mem_map.2 ⟨y, hy, rfl⟩)
  obtain ⟨E1, E2, e1, e2, e3⟩ := putBy_new (nm := enm) (y := (a, x)) hsE hgE
  subst e1
  refine disk_close (E := E1 ++ (a, x) :: E2) (mb := mb) ?_ hok ?_
  · rw [← e2, putBy_map (nm := enm) (mm := Fl.name) (fun x : Nat × Fl => x.2) (fun _ => rfl), hE]
  · rw [hu]
    have h2 := (h.p2.smap_perm (kvs' := kvE (E1 ++ (a, x) :: E2)) (by simp only [kvE, List.map_append, List.map_cons]; exact List.perm_middle)).q2
    exact file_in (f := x) h2.p3.swap
/-- A file put where its name has one. -/
theorem put_old (hE : (F1 ++ (b, g) :: F2).map (·.2) = D) (hs : SrtBy Fl.name D) (hok : DOk room (putF x D)) (hn : g.name = x.name) (hu : usedD (putF x D) = u)
    (h : Sat B (pt a (flC x) :: pt p (dkC room u mb) :: smap mb ((x.name, .pointer (some ⟨a, 0, none⟩)) :: kvE (F1 ++ F2)) :: stars ((F1 ++ (b, g) :: F2).map flP) :: L) w) : Sat B (disk p room (putF x D) :: L) w := by
  have hp : (F1 ++ (a, x) :: F2).map (·.2) = putF x D := by
    subst hE
    rw [List.map_append, List.map_cons] at hs ⊢
    rw [List.map_append, List.map_cons, putF, putBy_mid hs hn.symm]
  refine disk_close (E := F1 ++ (a, x) :: F2) (mb := mb) hp hok ?_
  rw [hu]
  have h2 := (h.p2.smap_perm (kvs' := kvE (F1 ++ (a, x) :: F2)) (by simp only [kvE, List.map_append, List.map_cons]; exact List.perm_middle)).q2
  -- pt a :: pt p :: smap :: stars
  have h3 := h2.p3
  rw [List.map_append, List.map_cons] at h3
  have h4 := h3.mid.drop
  rw [← List.map_append] at h4
  exact file_in (f := x) h4.swap
/-- 'Rename'. -/
theorem pdRename (n m : Bt) (hml : m.length ≤ 9223372036854775807) (h : Sat B (disk p room D :: L) w) :
    Calls Tryz.prog 76 #[.pointer (some ⟨p, 0, none⟩), .string (bA n), .string (bA m)] w fun y w' => y = .returned (.int .i64 (renameD D n m).1) ∧ Sat B (disk p room (renameD D n m).2 :: L) w' := by
  obtain ⟨mb, E, hE, hok, h1⟩ := disk_open h
  cases hg : getF n D with
  | none =>
    have ho := pof_none h1 (kv_none hE hg)
    have H : Hid (renameD D n m = (5, D)) := Lib.hid (by simp [renameD, hg])
    clear hg hE hok h1
    go_enter Tryz.func76, Tryz.ntmps76
    go_wp2_with (go_at_call 46; refine ho.mono ?_; rintro y w1 ⟨rfl, rfl⟩)
    go_ret
    rw [H.out]
    exact ⟨rfl, h⟩
  | some f =>
    obtain ⟨E1, E2, a, rfl, hn⟩ := at_file hE hg
    have ho := pof_some (D := D) h1 (List.mem_append_right E1 (List.mem_cons_self (a := (a, f)) (l := E2))) hn
    have hnm := pdname (w := w) m hml
    cases hom : okName m with
    | false =>
      have H : Hid (renameD D n m = (2, D)) := Lib.hid (by simp [renameD, hg, hom])
      rw [hom] at hnm
      clear hom hg hE hok h1
      go_enter Tryz.func76, Tryz.ntmps76
      go_wp2_with (first
        | (go_at_call 46; refine ho.mono ?_; rintro y w1 ⟨rfl, rfl⟩)
        | (go_at_call 44; refine hnm.mono ?_; rintro y w1 ⟨rfl, rfl⟩))
      go_ret
      rw [H.out]
      exact ⟨rfl, h⟩
    | true =>
      rw [hom] at hnm
      by_cases hnn : n = m
      · subst hnn
        have H : Hid (renameD D n n = (0, D)) := Lib.hid (by simp [renameD, hg, hom])
        clear hom hg hE hok h1
        go_enter Tryz.func76, Tryz.ntmps76
        go_wp2_with (first
          | (go_at_call 46; refine ho.mono ?_; rintro y w1 ⟨rfl, rfl⟩)
          | (go_at_call 44; refine hnm.mono ?_; rintro y w1 ⟨rfl, rfl⟩))
        go_ret
        rw [H.out]
        exact ⟨rfl, h⟩
      · have hbe : (n == m) = false := by simpa using hnn
        have H : Hid ((renameD D n m).1 = 0) := Lib.hid (by simp [renameD, hg, hom, hnn])
        have H2 : (renameD D n m).2 = putF ⟨m, f.bytes, f.synced⟩ (delF n D) := by simp [renameD, hg, hom, hnn]
        have hokr := hok.rename n m
        rw [H2] at hokr
        have hok1 := hok.del n
        have hD1 : (E1 ++ E2).map (·.2) = delF n D := by
          subst hE; subst hn
          have := hok.srt
          rw [List.map_append, List.map_cons] at this
          rw [List.map_append, delF, List.map_append, List.map_cons]
          exact (delBy_mid this).symm
        have hgm : getF m (delF n D) = getF m D := by rw [getF, delF, getBy_del hok.srt, if_neg hnn]
        have hper : (kvE (E1 ++ E2)).Perm ((kvE (E1 ++ (a, f) :: E2)).filter (·.1 != n)) := by rw [← hn, kv_filter (srtE hE hok.srt)]
        have hus := used_del hok.srt hg
        have hud := hok.used
        have hrm := hok.room
        have c2 : w.cell? ⟨p, 2, none⟩ = some (.map (some mb)) := h1.pt_cell 2
        cases hgo : getF m D with
        | none =>
          rw [hgo] at hgm
          have hkv := kv_none hE hgo
          have hkv2 := kv_none hD1 hgm
          have hcl := fun (w9 : World) => put_new (L := L) (p := p) (a := a) (mb := mb) (u := usedD D) (w := w9) (B := B) (x := ⟨m, f.bytes, f.synced⟩) hD1 hok1.srt hokr hgm (by rw [used_put_new hok1.srt hgm]; exact hus)
          have hper2 : ∀ v : Value, ((m, v) :: kvE (E1 ++ E2)).Perm ((m, v) :: (kvE (E1 ++ E2)).filter (·.1 != m)) := fun v => by rw [kv_filter_none hkv2]
          rw [H2]
          clear hokr hok1 hD1 hgm hgo hg hE hok hn h hnn H2 hom hus
          go_enter Tryz.func76, Tryz.ntmps76
          go_wp2_with (first
            | (go_at_call 46; refine ho.mono ?_; rintro y w1 ⟨rfl, rfl⟩)
            | (go_at_call 44; refine hnm.mono ?_; rintro y w1 ⟨rfl, rfl⟩)
            | (with_reducible refine wpList_lookup_miss rfl Tryz.underlying72 Tryz.underlying9 rfl _ _ rfl rfl rfl h1.swap hkv ?_; go_frame)
            | (at_delete; refine wpList_delete rfl Tryz.underlying72 Tryz.underlying9 _ _ _ rfl rfl rfl h1.swap _ hper ?_; intro w6 h6; go_frame; have c3 : w6.cell? ⟨p, 2, none⟩ = some (.map (some mb)) := h6.swap.pt_cell 2)
            | (at_mapUpdate; refine wpList_mapUpdate rfl Tryz.underlying72 Tryz.underlying9 _ _ _ rfl rfl rfl rfl h6 _ (hper2 (.pointer (some ⟨a, 0, none⟩))) ?_; intro w7 h7; go_frame))
          go_ret
          rw [H.out]
          refine ⟨rfl, hcl _ ?_⟩
          have h8 := file_out h7.swap
          exact h8.swap.q3
        | some g =>
          rw [hgo] at hgm
          obtain ⟨F1, F2, b, e, hgn⟩ := at_file hD1 hgm
          have hmemE : (b, g) ∈ E1 ++ (a, f) :: E2 := by
            have : (b, g) ∈ E1 ++ E2 := by rw [e]; simp
            rcases List.mem_append.1 this with h | h <;> simp [h]
          have hk := kv_mem hmemE
          rw [hgn] at hk
          have hsE1 := srtE hD1 hok1.srt
          have huo := used_put_le (room := room) (g := ⟨m, f.bytes, f.synced⟩) hok1.srt hgm
          have huf : (Fl.mk m f.bytes f.synced).bytes.length = f.bytes.length := rfl
          rw [huf] at huo
          have hgb : g.bytes.length ≤ usedD D := by omega
          have hgl := getF_len hok hgo
          have hgs := bA_size g.bytes
          have hcl := fun (w9 : World) (hD1' : (F1 ++ (b, g) :: F2).map (·.2) = delF n D) => put_old (L := L) (p := p) (a := a) (mb := mb) (u := usedD D - g.bytes.length) (w := w9) (B := B) (x := ⟨m, f.bytes, f.synced⟩) hD1' hok1.srt hokr hgn (by omega)
          have hcl := fun (w9 : World) => hcl w9 (by rw [← e]; exact hD1)
          have hper2 : ∀ v : Value, ((m, v) :: kvE (F1 ++ F2)).Perm ((m, v) :: (kvE (E1 ++ E2)).filter (·.1 != m)) := fun v => by
            rw [e] at hsE1 ⊢
            rw [← hgn, kv_filter hsE1]
          have c0 : w.cell? ⟨b, 0, none⟩ = some (.string (bA g.bytes)) := by
            have h2 := file_out h1
            rw [e] at h2
            have h3 := h2.swap
            rw [List.map_append, List.map_cons] at h3
            exact h3.mid.pt_cell 0
          have c1 : w.cell? ⟨p, 1, none⟩ = some (.int .i64 (usedD D : Int)) := h1.pt_cell 1
          have f1 := h1.pt_free 1
          rw [H2]
          clear hokr hok1 hD1 hgm hgo hg hE hok hn h hnn H2 hom hus hsE1 huo huf
          go_enter Tryz.func76, Tryz.ntmps76
          go_wp2_with (first
            | (go_at_call 46; refine ho.mono ?_; rintro y w1 ⟨rfl, rfl⟩)
            | (go_at_call 44; refine hnm.mono ?_; rintro y w1 ⟨rfl, rfl⟩)
            | (with_reducible refine wpList_lookup_hit rfl Tryz.underlying72 Tryz.underlying9 _ _ rfl rfl rfl h1.swap hk ?_; go_frame))
          go_region
          have e1 : ((usedD D : Int) - (g.bytes.length : Int)) = ((usedD D - g.bytes.length : Nat) : Int) := by omega
          have h5 := (h1.set (j := 1) (.int .i64 ((usedD D : Int) - (g.bytes.length : Int)))).drew
          generalize (w1.setCell _ _).drew = w3 at h5 ⊢
          rw [e1] at h5
          have c3 : w3.cell? ⟨p, 2, none⟩ = some (.map (some mb)) := h5.pt_cell 2
          clear e1 c1 c2 f1 c0 ho h1
          go_wp2_with (first
            | (at_delete; refine wpList_delete rfl Tryz.underlying72 Tryz.underlying9 _ _ _ rfl rfl rfl h5.swap _ hper ?_; intro w6 h6; go_frame; have c4 : w6.cell? ⟨p, 2, none⟩ = some (.map (some mb)) := h6.swap.pt_cell 2)
            | (at_mapUpdate; refine wpList_mapUpdate rfl Tryz.underlying72 Tryz.underlying9 _ _ _ rfl rfl rfl rfl h6 _ (hper2 (.pointer (some ⟨a, 0, none⟩))) ?_; intro w7 h7; go_frame))
          go_ret
          rw [H.out]
          refine ⟨rfl, hcl _ ?_⟩
          have h8 := file_out h7.swap
          rw [e] at h8
          exact h8.swap.q3
/-- 'New'. -/
theorem pdNew (r : Int) (hr : r ≤ 9223372036854775807) (h : Sat B L w) :
    Calls Tryz.prog 7 #[.int .i64 r] w fun y w' => ∃ p, y = .returned (.pointer (some ⟨p, 0, none⟩)) ∧ Sat B (disk p r.toNat [] :: L) w' := by
  have hmk : ∀ w : World, (Instr.makeMap 72 none).run Tryz.prog w = .ok (.map (some w.heap.size)) (w.alloc (.map #[] 0)) := fun w => by simp [Instr.makeMap]
  have hcl : ∀ (mb p : Nat) (w9 : World), Sat B (pt p (.cells #[.int .i64 ((r.toNat : Nat) : Int), .int .i64 0, .map (some mb)] 74) :: smap mb [] :: L) w9 → Sat B (disk p r.toNat [] :: L) w9 := fun mb p w9 h9 => by
    refine disk_close (E := []) (mb := mb) rfl ⟨List.Pairwise.nil, by simp [usedD], by omega, (fun f hf => by cases hf), fun f hf => by cases hf⟩ ?_
    exact (Sat.fold (L := []) h9).q2
  have h1 := h.smap_new
  have h2 := h1.alloc' (.cells #[.int .i64 ((r.toNat : Nat) : Int), .int .i64 0, .map (some w.heap.size)] 74) (n := w.heap.size + 1) (by simp)
  have h3 := hcl _ _ _ h2
  clear hcl h1 h2 h
  by_cases h0 : 0 ≤ r
  · have e : ((r.toNat : Nat) : Int) = r := by omega
    rw [e] at h3
    clear e
    go_enter Tryz.func7, Tryz.ntmps7
    go_wp2
    go_ret
    exact ⟨_, rfl, h3⟩
  · have e : ((r.toNat : Nat) : Int) = 0 := by omega
    rw [e] at h3
    clear e
    go_enter Tryz.func7, Tryz.ntmps7
    go_wp2
    go_ret
    exact ⟨_, rfl, h3⟩
end
end Go.Proofs.YtdngjkjoahgelaaGreatDoor
