/-
  wal: Drop: contract.
-/
import Derived.Test.YtdngjkjoahgelaaGreatDoorWaC
import Derived.Test.YtdngjkjoahgelaaGreatDoorWlN
namespace Go.Proofs.YtdngjkjoahgelaaGreatDoor
set_option linter.all false
set_option maxRecDepth 100000
set_option maxHeartbeats 1000000
open Go.RowKit
section
variable {B w w' : World} {L M : List HP} {q p most room : Nat} {pre : Bt} {D : Fls} {F : List WF}
theorem dropW_two {f g : WF} {F : List WF} {tn : Nat} {D : Fls} (h : g.first ≤ tn) : dropW pre tn (f :: g :: F) D = dropW pre tn (g :: F) (removeD D (nameW pre f.first)).2 := by rw [dropW, if_pos h]
theorem dropW_stop {f g : WF} {F : List WF} {tn : Nat} {D : Fls} (h : ¬ g.first ≤ tn) : dropW pre tn (f :: g :: F) D = (D, f :: g :: F) := by rw [dropW, if_neg h]
theorem dropW_short {F : List WF} {tn : Nat} {D : Fls} (h : F.length ≤ 1) : dropW pre tn F D = (D, F) := by
  match F, h with
  | [], _ => rfl
  | [f], _ => rfl
/-- The first file is left off. -/
theorem wal_tail {g off m c : Nat} {x : WF × Value} {G : List (WF × Value)} (hm : G.length = m) (hc : m + 1 ≤ c) (hok : WOk pre (x.1 :: G.map (·.1)))
    (h : Sat B (pt q (wlC p pre most (.slice (some ⟨g, off, none⟩) (m + 1) c)) :: row 87 3 (.slice (some ⟨g, off, none⟩) (m + 1) c) (m + 1) ((x :: G).flatMap wfC) :: stars ((x :: G).map recP) :: L) w) :
    Sat B (wal q p pre most (G.map (·.1)) :: L) (w.setCell ⟨q, 3, none⟩ (.slice (some ⟨g, off + 3, none⟩) m (c - 1))) := by
  have h1 := h.set (j := 3) (.slice (some ⟨g, off + 3, none⟩) m (c - 1))
  have h2 : Sat B (row 87 3 (.slice (some ⟨g, off + 3, none⟩) m (c - 1)) m ((((x :: G).flatMap wfC).drop (1 * 3)).take (m * 3)) :: pt q (wlC p pre most (.slice (some ⟨g, off + 3, none⟩) m (c - 1))) :: stars ((x :: G).map recP) :: L) _ :=
    h1.swap.row_cut 1 m (c - 1) (by omega) (by omega) (by omega)
  have e1 : (((x :: G).flatMap wfC).drop (1 * 3)).take (m * 3) = G.flatMap wfC := by
    have hl := wf_len G
    rw [hm] at hl
    rw [List.flatMap_cons, show 1 * 3 = (wfC x).length from rfl, List.drop_left, ← hl, List.take_length]
  rw [e1] at h2
  have h3 : Sat B (stars (recP x :: G.map recP) :: row 87 3 (.slice (some ⟨g, off + 3, none⟩) m (c - 1)) m (G.flatMap wfC) :: pt q (wlC p pre most (.slice (some ⟨g, off + 3, none⟩) m (c - 1))) :: L) _ := h2.p2
  have h4 : Sat B (recP x :: (G.map recP ++ (row 87 3 (.slice (some ⟨g, off + 3, none⟩) m (c - 1)) m (G.flatMap wfC) :: pt q (wlC p pre most (.slice (some ⟨g, off + 3, none⟩) m (c - 1))) :: L))) _ := h3.flat
  have h5 := Sat.fold (L := G.map recP) h4.drop
  subst hm
  exact wal_close (fv := .slice (some ⟨g, off + 3, none⟩) G.length (c - 1)) rfl ⟨hok.pre, fun f hf => hok.first f (List.mem_cons_of_mem _ hf), fun f hf => hok.recs f (List.mem_cons_of_mem _ hf), by have := hok.many; simp at this ⊢; omega⟩ h5.swap.p2
/-- 'Drop'. -/
theorem pwDrop (hE : Env B) (tn : Nat) (hto : tn ≤ 18446744073709551615) (h : Sat B (wal q p pre most F :: disk p room D :: L) w) :
    Calls Tryz.prog 20 #[.pointer (some ⟨q, 0, none⟩), .int .u64 (tn : Int)] w fun y w' => y = .returned (.int .i64 0) ∧ Sat B (wal q p pre most (dropW pre tn F D).2 :: disk p room (dropW pre tn F D).1 :: L) w' := by
  have c0 := (wal_cells h).1
  have hno := pwNone (q := q) c0
  obtain ⟨N, hN⟩ : ∃ N, F.length = N := ⟨_, rfl⟩
  have b0 : (tn : Int) ≤ 18446744073709551615 := by omega
  have HN := Lib.hid hN
  clear hN c0
  go_enter Tryz.func20, Tryz.ntmps20
  go_wp2_with (go_at_call 39; refine hno.mono ?_; rintro y w1 ⟨rfl, rfl⟩)
  clear hno
  go_loopg [] (N + 1) (fun gh wr => ∃ (F1 : List WF) (D1 : Fls), dropW pre tn F D = dropW pre tn F1 D1 ∧ F1.length + 1 ≤ gh ∧ Sat B (wal q p pre most F1 :: disk p room D1 :: L) wr)
  case atStart => exact ⟨F, D, rfl, by have := HN.out; omega, h⟩
  case round =>
    clear h
    obtain ⟨F1, D1, hdr, hlen, h1⟩ := hrel
    have hdk := disk_ok h1.swap
    obtain ⟨fv, G, hG, hok, h2⟩ := wal_open h1
    have c0 : wr.cell? ⟨q, 0, none⟩ = some (.pointer (some ⟨p, 0, none⟩)) := h2.pt_cell 0
    have c3 : wr.cell? ⟨q, 3, none⟩ = some fv := h2.pt_cell 3
    obtain ⟨a, c, rfl, ha, hnc, hc⟩ := h2.swap.row_reads
    have hc : c ≤ 9223372036854775807 := by have := hc.1; unfold maxLen at this; omega
    have hGl : G.length = F1.length := by rw [← hG, List.length_map]
    have hmany := hok.many
    by_cases hs : F1.length ≤ 1
    · rw [dropW_short hs] at hdr
      have Hdr := Lib.hid hdr
      obtain ⟨m, hm⟩ : ∃ m, G.length = m := ⟨_, rfl⟩
      have hm1 : m ≤ 1 := by omega
      rw [hm] at c3
      have b1 : ¬ (m : Int) > 1 := by omega
      have b2 : ¬ (1 : Int) < (m : Int) := by omega
      have b3 : (m : Int) ≤ 1 := by omega
      clear hdr hlen hdk h2 ha hG hGl hok hs hm hmany hnc
      go_wp2_with fail
      go_ret
      rw [Hdr.out]
      exact ⟨rfl, h1⟩
    · obtain ⟨f, g1, F2, rfl⟩ : ∃ f g1 F2, F1 = f :: g1 :: F2 := by
        clear hdr hlen h1 hdk hok h2 ha hG hGl hmany
        match F1, hs with
        | [], hs => simp at hs
        | [f], hs => simp at hs
        | f :: g1 :: F2, _ => exact ⟨_, _, _, rfl⟩
      obtain ⟨f', v, g', u, G2, rfl⟩ : ∃ f' v g' u G2, G = (f', v) :: (g', u) :: G2 := by
        clear hdr hlen h1 hdk hok h2 ha hmany c3
        match G, hGl with
        | [], e => simp at e
        | [x], e => simp at e
        | (f', v) :: (g', u) :: G2, _ => exact ⟨_, _, _, _, _, rfl⟩
      simp only [List.map_cons, List.cons.injEq] at hG
      obtain ⟨rfl, rfl, hG2⟩ := hG
      obtain ⟨m, hm⟩ : ∃ m, G2.length = m := ⟨_, rfl⟩
      have hm2 : m + 2 ≤ 1000000 := by simp at hGl hmany; omega
      have hl : ((f', v) :: (g', u) :: G2).length = m + 1 + 1 := by simp [hm]
      rw [hl] at c3 h2 ha hnc
      obtain ⟨g, off, rfl⟩ := row_some (g := Unit) h2.swap (by omega)
      obtain ⟨d1, _⟩ := file_at (i := 0) h2.swap rfl
      obtain ⟨e1, _⟩ := file_at (i := 1) h2.swap rfl
      simp only [Nat.zero_mul, Nat.add_zero, Nat.one_mul] at d1 e1
      have hf1 := hok.first f' (by simp)
      have hf2 := hok.first g' (by simp)
      have b1 : ((m + 1 + 1 : Nat) : Int) > 1 := by omega
      have b2 : (1 : Int) < ((m + 1 + 1 : Nat) : Int) := by omega
      have b1' : ((m : Int) + 1 + 1) > 1 := by omega
      have b2' : (1 : Int) < (m : Int) + 1 + 1 := by omega
      have b3 : (m : Int) ≤ 1000000 := by omega
      have b4 : (0 : Int) < (m : Int) + 1 + 1 := by omega
      have hc2 : m + 1 + 1 ≤ c := hnc
      have hc3 : ¬ c - 1 = 0 := by omega
      have hc4 : (c : Int) ≤ 9223372036854775807 := by omega
      have hc5 : (m : Int) + 1 + 1 ≤ (c : Int) := by omega
      have hc6 : (1 : Int) ≤ (c : Int) := by omega
      by_cases hle : g'.first ≤ tn
      · rw [dropW_two hle] at hdr
        have l1 : (g'.first : Int) ≤ (tn : Int) := by omega
        have Hdr := Lib.hid hdr
        have Hok := Lib.hid hok
        have Hl := Lib.hid (show (f' :: g' :: F2).length + 1 ≤ gk from hlen)
        have HG2 := Lib.hid hG2
        have Hm := Lib.hid hm
        have hpl := hok.pre
        have hS : ∀ (D' : Fls) (w' : World), Sat B (pt q (wlC p pre most (.slice (some ⟨g, off, none⟩) (m + 1 + 1) c)) :: row 87 3 (.slice (some ⟨g, off, none⟩) (m + 1 + 1) c) (m + 1 + 1) (((f', v) :: (g', u) :: G2).flatMap wfC) :: stars (((f', v) :: (g', u) :: G2).map recP) :: disk p room D' :: L) w' →
            w'.cell? ⟨q, 0, none⟩ = some (.pointer (some ⟨p, 0, none⟩)) ∧ w'.cell? ⟨q, 3, none⟩ = some (.slice (some ⟨g, off, none⟩) (m + 1 + 1) c) ∧ w'.cell? ⟨g, off, none⟩ = some (.int .u64 (f'.first : Int)) := fun D' w' h' =>
          ⟨h'.pt_cell 0, h'.pt_cell 3, by have := (file_at (i := 0) h'.swap rfl).1; simpa using this⟩
        have hc1 : ∀ w', Sat B (pt q (wlC p pre most (.slice (some ⟨g, off, none⟩) (m + 1 + 1) c)) :: row 87 3 (.slice (some ⟨g, off, none⟩) (m + 1 + 1) c) (m + 1 + 1) (((f', v) :: (g', u) :: G2).flatMap wfC) :: stars (((f', v) :: (g', u) :: G2).map recP) :: disk p room D1 :: L) w' →
            w'.cell? ⟨q, 1, none⟩ = some (.string (bA pre)) := fun w' h' => h'.pt_cell 1
        have h2d := h2.drew
        have h0 := hS _ _ h2d
        clear hdr hlen hdk ha hGl hok hs hm hmany h1 h2 hG2 hl hnc
        go_wp2_with fail
        go_region_held3 (fun w' => w'.cell? ⟨q, 0, none⟩ = some (.pointer (some ⟨p, 0, none⟩)) ∧ w'.cell? ⟨q, 3, none⟩ = some (.slice (some ⟨g, off, none⟩) (m + 1 + 1) c) ∧ w'.cell? ⟨g, off, none⟩ = some (.int .u64 (f'.first : Int)))
          (first | exact h0 | exact hS _ _ h5.q3 | exact hS _ _ h4)
          (first
            | (go_at_call 37; refine (pwName hE f'.first hf1.2 h2d hc1 hpl).mono ?_; rintro y w4 ⟨rfl, h4⟩)
            | (go_at_call 33; refine (pdRemove (nameW pre f'.first) h4.p3).mono ?_; rintro y w5 ⟨rfl, h5⟩))
        all_goals
          have h6 := h5.q3
          obtain ⟨k0, k3, _⟩ := hS _ _ h6
          have kf := h6.pt_free 3
          go_wp2_with fail
          go_roundg (gk - 1)
          case measure => have := Hl.out; omega
          case rel =>
            refine ⟨g' :: F2, _, Hdr.out, by have := Hl.out; simp at this ⊢; omega, ?_⟩
            have h7 := wal_tail (c := c) (x := (f', v)) (G := (g', u) :: G2) (m := m + 1) (by have := Hm.out; simp [this]) (by omega) (by have := Hok.out; rw [← HG2.out] at this; exact this) h6
            rw [List.map_cons, HG2.out] at h7
            exact h7
      · rw [dropW_stop hle] at hdr
        have l1 : ¬ (g'.first : Int) ≤ (tn : Int) := by omega
        have l2 : (tn : Int) < (g'.first : Int) := by omega
        have Hdr := Lib.hid hdr
        clear hdr hlen hdk h2 ha hGl hok hs hm hmany hl hnc
        go_wp2_with fail
        go_ret
        rw [Hdr.out]
        exact ⟨rfl, h1⟩
end
end Go.Proofs.YtdngjkjoahgelaaGreatDoor
