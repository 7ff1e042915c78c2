/-
  wal: Append: contract. wal: Append, a new file begun: contract. (Printed by gen/wa6b.py.)
-/
import Derived.Test.YtdngjkjoahgelaaGreatDoorWaA
namespace Go.Proofs.YtdngjkjoahgelaaGreatDoor
set_option linter.all false
set_option maxRecDepth 100000
set_option maxHeartbeats 2000000
open Go.RowKit
theorem freshW_snoc (most : Nat) (F : List WF) (f : WF) : freshW most (F ++ [f]) = decide (most ≤ f.size) := by simp [freshW]
theorem appW_old {room most : Nat} {p : Bt} {D : Fls} {F : List WF} {f : WF} {r : Bt} (hr : ¬ 1048576 < r.length) (hs : ¬ most ≤ f.size) :
    appendW room most p D (F ++ [f]) r = if (appendD room D (nameW p f.first) (frameB r)).1 = 0 then (0, (appendD room D (nameW p f.first) (frameB r)).2, F ++ [⟨f.first, f.recs ++ [r]⟩]) else ((appendD room D (nameW p f.first) (frameB r)).1, D, F ++ [f]) := by
  rw [appendW, if_neg hr, if_neg (by rw [freshW_snoc]; simpa using hs)]
  simp
theorem appW_new {room most : Nat} {p : Bt} {D : Fls} {F : List WF} {r : Bt} (hr : ¬ 1048576 < r.length) (hf : freshW most F = true) (hn : ¬ 1000000000000000 < nextW F) :
    appendW room most p D F r = if (appendD room (syncW D p F) (nameW p (nextW F)) (frameB r)).1 = 0 then (0, (appendD room (syncW D p F) (nameW p (nextW F)) (frameB r)).2, F ++ [⟨nextW F, [r]⟩]) else ((appendD room (syncW D p F) (nameW p (nextW F)) (frameB r)).1, syncW D p F, F) := by
  rw [appendW, if_neg hr, if_pos hf, if_neg hn]
theorem good_snoc (rs : List Bt) (b : Bt) : goodB (rs ++ [b]) = goodB rs + (8 + b.length) := by simp [goodB]
theorem wf_set (G' : List (WF × Value)) {f f' : WF} (v : Value) {u v' : Value} (h1 : f'.first = f.first) (h2 : u = .int .i64 (f'.size : Int)) : (((G' ++ [(f, v)]).flatMap wfC).set (G'.length * 3 + 1) u).set (G'.length * 3 + 2) v' = (G' ++ [(f', v')]).flatMap wfC := by
  have hl := wf_len G'
  subst h2
  rw [List.flatMap_append, List.flatMap_append, List.set_append, if_neg (by omega), List.set_append, if_neg (by omega), hl, show G'.length * 3 + 1 - G'.length * 3 = 1 by omega, show G'.length * 3 + 2 - G'.length * 3 = 2 by omega]
  simp [wfC, h1]
section
variable {B w w' : World} {L M : List HP} {q p most room : Nat} {pre r : Bt} {D : Fls} {F F' : List WF} {f : WF}
def AppPost (B : World) (L : List HP) (q p most room : Nat) (pre : Bt) (D : Fls) (F : List WF) (r : Bt) (y : Ending) (w' : World) : Prop :=
  y = .returned (.int .i64 (appendW room most pre D F r).1) ∧ Sat B (wal q p pre most (appendW room most pre D F r).2.2 :: disk p room (appendW room most pre D F r).2.1 :: L) w'
/-- The last file of the log has room. -/
theorem pwAppend_old (hE : Env B) (hsz : ¬ most ≤ f.size) (hr : r.length ≤ 1048576) (hbig : f.size + 2000000 ≤ 1099511627776) (hmost : most ≤ 9223372036854775807) (h : Sat B (wal q p pre most (F' ++ [f]) :: disk p room D :: L) w) :
    Calls Tryz.prog 10 #[.pointer (some ⟨q, 0, none⟩), .string (bA r)] w (AppPost B L q p most room pre D (F' ++ [f]) r) := by
  have hdk := disk_ok h.swap
  obtain ⟨fv, G, hG, hok, h1⟩ := wal_open h
  have c0 : w.cell? ⟨q, 0, none⟩ = some (.pointer (some ⟨p, 0, none⟩)) := h1.pt_cell 0
  have hno := pwNone (q := q) c0
  obtain ⟨a, c, rfl, ha, _, hc⟩ := h1.swap.row_reads
  have hc : c ≤ 9223372036854775807 := by have := hc.1; unfold maxLen at this; omega
  obtain ⟨G', v, rfl, hG'⟩ := wal_snoc hG
  obtain ⟨m, hm⟩ : ∃ m, G'.length = m := ⟨_, rfl⟩
  have hx : (G' ++ [(f, v)])[m]? = some (f, v) := by rw [← hm]; simp
  have hlen : (G' ++ [(f, v)]).length = m + 1 := by simp [hm]
  rw [hlen] at h1 ha
  obtain ⟨g, off, rfl⟩ := row_some (g := Unit) h1.swap (by omega)
  obtain ⟨va, vc, hv, _⟩ := rec_at h1 hx
  simp only at hv
  obtain ⟨rl, hrl⟩ : ∃ rl, f.recs.length = rl := ⟨_, rfl⟩
  rw [hrl] at hv
  have hf := hok.first f (by simp)
  have hmn := hok.many
  have hFl : F'.length = m := by rw [← hG', List.length_map, hm]
  have b0 : m ≤ 1000000 := by simp at hmn; omega
  have b1 : (m : Int) ≤ 1000000 := by omega
  have b2 : (m : Int) < (m : Int) + 1 := by omega
  have b3 : ((m : Int) + 1 == 0) = false := by simp; omega
  have ew : IntKind.i64.wrap (m : Int) = (m : Int) := wraps_i64' _ (by omega) (by omega)
  obtain ⟨sz, hsz0⟩ : ∃ sz, f.size = sz := ⟨_, rfl⟩
  have hS : ∀ (D' : Fls) (w' : World), Sat B (pt q (wlC p pre most (.slice (some ⟨g, off, none⟩) (m + 1) c)) :: row 87 3 (.slice (some ⟨g, off, none⟩) (m + 1) c) (m + 1) ((G' ++ [(f, v)]).flatMap wfC) :: stars ((G' ++ [(f, v)]).map recP) :: disk p room D' :: L) w' →
      w'.cell? ⟨q, 0, none⟩ = some (.pointer (some ⟨p, 0, none⟩)) ∧ w'.cell? ⟨q, 2, none⟩ = some (.int .i64 (most : Int)) ∧ w'.cell? ⟨q, 3, none⟩ = some (.slice (some ⟨g, off, none⟩) (m + 1) c) ∧ w'.cell? ⟨g, off + m * 3, none⟩ = some (.int .u64 (f.first : Int)) ∧ w'.cell? ⟨g, off + m * 3 + 1, none⟩ = some (.int .i64 (sz : Int)) := fun D' w' h' => by
    obtain ⟨d1, d2, _⟩ := file_at h'.swap hx
    exact ⟨h'.pt_cell 0, h'.pt_cell 2, h'.pt_cell 3, d1, by rw [← hsz0]; exact d2⟩
  have hc1 : ∀ w', Sat B (pt q (wlC p pre most (.slice (some ⟨g, off, none⟩) (m + 1) c)) :: row 87 3 (.slice (some ⟨g, off, none⟩) (m + 1) c) (m + 1) ((G' ++ [(f, v)]).flatMap wfC) :: stars ((G' ++ [(f, v)]).map recP) :: disk p room D :: L) w' →
      w'.cell? ⟨q, 1, none⟩ = some (.string (bA pre)) := fun w' h' => h'.pt_cell 1
  have hW : ∀ w', Sat B (pt q (wlC p pre most (.slice (some ⟨g, off, none⟩) (m + 1) c)) :: row 87 3 (.slice (some ⟨g, off, none⟩) (m + 1) c) (m + 1) ((G' ++ [(f, v)]).flatMap wfC) :: stars ((G' ++ [(f, v)]).map recP) :: disk p room D :: L) w' →
      Calls Tryz.prog 14 #[.pointer (some ⟨q, 0, none⟩)] w' fun y w'' => y = .returned (.int .u64 (nextW (F' ++ [f]) : Int)) ∧ Dr w' w'' := fun w' h' => pwNext (wal_close hG hok (fv := .slice (some ⟨g, off, none⟩) (m + 1) c) (by rw [hlen]; exact h'))
  obtain ⟨nx, hnx⟩ : ∃ nx, nextW (F' ++ [f]) = nx := ⟨_, rfl⟩
  have hfr := psFrame r hr h1
  obtain ⟨s, hs⟩ : ∃ s, frameB r = s := ⟨_, rfl⟩
  have hsl : s.length = 8 + r.length := by rw [← hs, frame_len]
  have hap := appW_old (room := room) (p := pre) (D := D) (F := F') (f := f) (r := r) (by omega) hsz
  rw [hs] at hap hfr
  rw [hnx] at hW
  obtain ⟨nm, hnm⟩ : ∃ nm, nameW pre f.first = nm := ⟨_, rfl⟩
  have hnl : nm.length ≤ 9223372036854775807 := by rw [← hnm, name_len ⟨hf.1, hf.2⟩]; have := hok.pre; omega
  rw [hnm] at hap
  have ns : ¬ ((most : Int) ≤ (sz : Int)) := by omega
  have ns2 : ¬ ((sz : Int) ≥ (most : Int)) := by omega
  have hrl2 : rl ≤ 1099511627776 := by have := hok.recs f (by simp); have := rs_le f.recs; simp only [WF.size] at *; omega
  have hsz1 : (sz : Int) ≤ 1099511627776 := by omega
  have Hok := Lib.hid hok
  have HG := Lib.hid hG
  have HG' := Lib.hid hG'
  have Hm := Lib.hid hm
  have Hlen := Lib.hid hlen
  have Hv := Lib.hid hv
  have Hap := Lib.hid hap
  have Hx := Lib.hid hx
  have Hr := Lib.hid hrl
  have Hnm := Lib.hid hnm
  have Hsz := Lib.hid hsz0
  have hpl := hok.pre
  have hszs : (bA s).size = s.length := by simp [ByteArray.size]
  have s1 : (s.length : Int) ≤ 1048584 := by omega
  have s2 : s.length ≤ 1048584 := by omega
  have Hsl := Lib.hid hsl
  clear hsl
  clear h h1 hG hok hlen hv hap hx hrl hG' hm hFl hnx hs hnm hsz0 hmn ha c0 hsz
  go_enter Tryz.func10, Tryz.ntmps10
  go_wp2_with (first
    | (go_at_call 39; refine hno.mono ?_; rintro y w1 ⟨rfl, rfl⟩)
    | (go_at_call 41; refine hfr.mono ?_; rintro y w1 ⟨rfl, h2⟩)
    | (go_at_call 14; refine (hW _ h2).mono ?_; rintro y w2 ⟨rfl, k2, rfl⟩))
  have h3 := h2.drewN k2
  obtain ⟨d0, d2, d3, df, ds⟩ := hS _ _ h2
  go_quiet (fail)
  go_wp2_with fail
  have h4 := h2.drewN (k2 + nq)
  generalize w1.drewN (k2 + nq) = w4 at h4 ⊢
  obtain ⟨e0, e2, e3, ef, es⟩ := hS _ _ h4
  clear d0 d2 d3 df ds h3
  go_quiet (fail)
  have h5 := h4.drewN nq
  generalize w4.drewN nq = w5 at h5 ⊢
  go_wp2_with fail
  have h5d := h5.drew
  have hs0 := hS _ _ h5d
  go_region_held3 (fun w' => w'.cell? ⟨q, 0, none⟩ = some (.pointer (some ⟨p, 0, none⟩)) ∧ w'.cell? ⟨q, 2, none⟩ = some (.int .i64 (most : Int)) ∧ w'.cell? ⟨q, 3, none⟩ = some (.slice (some ⟨g, off, none⟩) (m + 1) c) ∧ w'.cell? ⟨g, off + m * 3, none⟩ = some (.int .u64 (f.first : Int)) ∧ w'.cell? ⟨g, off + m * 3 + 1, none⟩ = some (.int .i64 (sz : Int)))
    (first | exact hs0 | exact hS _ _ h7 | exact hS _ _ h6)
    (first
      | (go_at_call 37; refine (pwName hE f.first hf.2 h5d hc1 hpl).mono ?_; rintro y w6 ⟨rfl, h6⟩; rw [Hnm.out])
      | (go_at_call 17; refine (pdAppend nm s hnl (by omega) h6.p3).mono ?_; rintro y w7 ⟨rfl, h7'⟩; have h7 := h7'.q3))
  obtain ⟨z, hz⟩ : ∃ z, (appendD room D nm s).1 = z := ⟨_, rfl⟩
  have hap := Hap.out
  rw [hz] at hap ⊢
  by_cases h0 : z = 0
  · subst h0
    rw [if_pos rfl] at hap
    have Hap2 := Lib.hid hap
    obtain ⟨D2, hD2⟩ : ∃ D2, (appendD room D nm s).2 = D2 := ⟨_, rfl⟩
    rw [hD2] at h7
    have HD2 := Lib.hid hD2
    obtain ⟨i0, i2, i3, i4, i5⟩ := hS _ _ h7
    clear hap hD2 hz h2 h4 h5 h5d hs0 h6 h7' e0 e2 e3 ef es
    go_wp2_with fail
    go_quiet (fail)
    have h8 := h7.drewN nq
    generalize w7.drewN nq = w8 at h8 ⊢
    obtain ⟨j0, j2, j3, j4, j5⟩ := hS _ _ h8
    obtain ⟨_, _, j6, _⟩ := file_at h8.swap Hx.out
    obtain ⟨g2, o2, e, _, f1, _⟩ := h8.swap.row_cell (m * 3 + 1) (by omega)
    cases e
    rw [← Nat.add_assoc] at f1
    have h9 := h8.swap.row_set (m * 3 + 1) (by omega) (u := .int .i64 ((sz : Int) + (s.length : Int))) rfl
    rw [← Nat.add_assoc] at h9
    have h10 := h9.p2
    rw [List.map_append] at h10
    have h11 : Sat B (row 9 1 v f.recs.length (strB f.recs) :: stars (List.map recP G' ++ []) :: _) _ := Sat.mid (L2 := []) h10
    rw [Hr.out] at h11
    have h12 := (h11.alloc' (.cells #[.string (bA r)] 9) (n := w8.heap.size) (by simp)).swap
    have hrn : reads ((w8.setCell ⟨g, off + m * 3 + 1, none⟩ (.int .i64 ((sz : Int) + (s.length : Int)))).alloc (.cells #[.string (bA r)] 9)) (.slice (some ⟨w8.heap.size, 0, none⟩) 1 1) 1 [.string (bA r)] := reads_new _ _ (by simp) (by omega)
    have b4 : rl + 1 ≤ maxLen := by unfold maxLen; omega
    have b5 : (rl + 1) * 16 ≤ 140737488355328 := by omega
    simp only at j6
    clear h9 h10 h11 h7
    go_wp2_with (at_builtin; refine wpList_append_row rfl strElem (.tmp 135) (.tmp 137) rfl _ _ rl 1 (strB f.recs) [.string (bA r)] rfl rfl h12 hrn rfl (by simp [Value.oneCell']) b4 b5 ?_; intro a' c' w10 h13; obtain ⟨g3, o3, e, k3, f3, _⟩ := h13.p3.row_cell (m * 3 + 2) (by omega); cases e; rw [← Nat.add_assoc] at f3 k3; rw [List.getElem?_set_ne (by omega), (wf_get Hx.out).2.2] at k3; go_frame)
    go_ret
    unfold AppPost
    rw [Hap2.out]
    refine ⟨rfl, ?_⟩
    have h15 := h13.swap.drop.p2.row_set (m * 3 + 2) (by omega) (u := .slice a' (rl + 1) c') rfl
    rw [← Nat.add_assoc] at h15
    have e := wf_set G' (f := f) (f' := ⟨f.first, f.recs ++ [r]⟩) v (u := .int .i64 ((sz : Int) + (s.length : Int))) (v' := .slice a' (rl + 1) c') rfl (by rw [WF.size, good_snoc, ← Hsz.out, Hsl.out]; simp [WF.size])
    rw [Hm.out] at e
    rw [e] at h15
    have h16 : Sat B (stars (List.map recP G' ++ [recP (⟨f.first, f.recs ++ [r]⟩, .slice a' (rl + 1) c')]) :: _) _ := Sat.mid' (L2 := []) (A := recP (⟨f.first, f.recs ++ [r]⟩, .slice a' (rl + 1) c')) (by
      have := h15.swap.p2.swap
      show Sat B (row 9 1 (.slice a' (rl + 1) c') (f.recs ++ [r]).length (strB (f.recs ++ [r])) :: _) _
      rw [List.length_append, Hr.out, show strB (f.recs ++ [r]) = strB f.recs ++ [.string (bA r)] by simp [strB]]
      exact this)
    rw [HD2.out]
    refine wal_close (G := G' ++ [(⟨f.first, f.recs ++ [r]⟩, .slice a' (rl + 1) c')]) (fv := .slice (some ⟨g, off, none⟩) (m + 1) c) (by rw [List.map_append, HG'.out]; rfl) ⟨hpl, fun x hx => ?_, fun x hx => ?_, by have := Hok.out.many; simpa using this⟩ ?_
    · rcases List.mem_append.1 hx with hx | hx
      · exact Hok.out.first x (List.mem_append.2 (.inl hx))
      · obtain rfl := List.mem_singleton.1 hx; exact hf
    · rcases List.mem_append.1 hx with hx | hx
      · exact Hok.out.recs x (List.mem_append.2 (.inl hx))
      · obtain rfl := List.mem_singleton.1 hx
        have h := hbig
        simp only [WF.size, good_snoc] at h ⊢
        omega
    · rw [List.length_append, Hm.out, List.map_append]
      exact h16.swap.p2
  · rw [if_neg h0] at hap
    obtain ⟨e1, _⟩ := append_err (by rw [hz]; exact h0 : (appendD room D nm s).1 ≠ 0)
    rw [e1] at h7
    have z1 : (z == 0) = false := by simpa using h0
    have z2 : (z != 0) = true := by simpa using h0
    have Hap2 := Lib.hid hap
    clear hap hz e1 h0 h2 h4 h5 h5d hs0 h6 h7' e0 e2 e3 ef es
    go_wp2_with fail
    go_ret
    unfold AppPost
    rw [Hap2.out]
    exact ⟨rfl, wal_close HG.out Hok.out (fv := .slice (some ⟨g, off, none⟩) (m + 1) c) (by rw [Hlen.out]; exact h7)⟩
end
end Go.Proofs.YtdngjkjoahgelaaGreatDoor

namespace Go.Proofs.YtdngjkjoahgelaaGreatDoor
set_option linter.all false
set_option maxRecDepth 100000
set_option maxHeartbeats 2000000
open Go.RowKit
section
variable {B w w' : World} {L M : List HP} {q p most room : Nat} {pre r : Bt} {D : Fls} {F F' : List WF} {f : WF}
/-- No file yet. -/
theorem pwAppend_first (hE : Env B) (hr : r.length ≤ 1048576) (hmost : most ≤ 9223372036854775807) (h : Sat B (wal q p pre most [] :: disk p room D :: L) w) :
    Calls Tryz.prog 10 #[.pointer (some ⟨q, 0, none⟩), .string (bA r)] w (AppPost B L q p most room pre D [] r) := by
  have hnx := fun w' (h' : Sat B (wal q p pre most [] :: disk p room D :: L) w') => pwNext h'
  have hno : ∀ w', Sat B (wal q p pre most [] :: disk p room D :: L) w' → Calls Tryz.prog 39 #[.pointer (some ⟨q, 0, none⟩)] w' fun y w'' => y = .returned (.bool false) ∧ w'' = w' := fun w' h' => pwNone (q := q) (wal_cells h').1
  have hno1 := hno w h
  have hfr := psFrame r hr h
  obtain ⟨s, hs⟩ : ∃ s, frameB r = s := ⟨_, rfl⟩
  have hsl : s.length = 8 + r.length := by rw [← hs, frame_len]
  have hap := appW_new (room := room) (most := most) (p := pre) (D := D) (F := []) (r := r) (by omega) rfl (by simp [nextW])
  obtain ⟨nx, hn⟩ : ∃ nx, nextW ([] : List WF) = nx := ⟨_, rfl⟩
  have hnx1 : nx = 1 := by rw [← hn]; rfl
  obtain ⟨D1, hD1⟩ : ∃ D1, syncW D pre [] = D1 := ⟨_, rfl⟩
  have hD0 : D1 = D := by rw [← hD1]; rfl
  rw [hs] at hap hfr
  rw [hn, hD1] at hap
  rw [hn] at hnx
  obtain ⟨nm, hnm⟩ : ∃ nm, nameW pre nx = nm := ⟨_, rfl⟩
  have hok1 := wal_ok h
  have hnl : nm.length ≤ 9223372036854775807 := by rw [← hnm, name_len ⟨by omega, by omega⟩]; have := hok1.pre; omega
  rw [hnm] at hap
  have Hap := Lib.hid hap
  have Hnm := Lib.hid hnm
  have Hn := Lib.hid hn
  have Hsl := Lib.hid hsl
  have hpl := hok1.pre
  have Hok := Lib.hid hok1
  have hszs : (bA s).size = s.length := by simp [ByteArray.size]
  have s1 : (s.length : Int) ≤ 1048584 := by omega
  have s2 : s.length ≤ 1048584 := by omega
  have nxb : nx ≤ 1000000000000000 := by omega
  have hmany : ([] : List WF).length + 1 ≤ 1000000 := by simp
  have nx0 : 1 ≤ nx := by omega
  have nxc : ¬ ((nx : Int) > 1000000000000000) := by omega
  have c3a : ∀ w', Sat B (wal q p pre most [] :: disk p room D :: L) w' → ∃ fc, w'.cell? ⟨q, 3, none⟩ = some (.slice none 0 fc) ∨ True := fun w' h' => ⟨0, .inr trivial⟩
  clear hap hnm hs hsl hn hnx1 hD1 hno h c3a
  go_enter Tryz.func10, Tryz.ntmps10
  go_wp2_with (first
    | (go_at_call 39; refine hno1.mono ?_; rintro y w1 ⟨rfl, rfl⟩)
    | (go_at_call 41; refine hfr.mono ?_; rintro y w1 ⟨rfl, h2⟩)
    | (go_at_call 14; refine (hnx _ h2).mono ?_; rintro y w2 ⟨rfl, k2, rfl⟩))
  obtain ⟨fv0, G, hG, _, h4⟩ := wal_open h2
  obtain ⟨fa, fc, rfl, ha, _, hc⟩ := h4.swap.row_reads
  have hc : fc ≤ 9223372036854775807 := by have := hc.1; unfold maxLen at this; omega
  obtain ⟨k, hk⟩ : ∃ k, G.length = k := ⟨_, rfl⟩
  have hk0 : k = 0 := by rw [← hk]; have := congrArg List.length hG; simpa using this
  rw [hk] at h4 ha
  have Hk := Lib.hid hk
  have HG := Lib.hid hG
  have d3 : w1.cell? ⟨q, 3, none⟩ = some (.slice fa k fc) := h4.pt_cell 3
  have hkb : (k : Int) = 0 := by omega
  have hkc : ((k : Int) == 0) = true := by simp [hkb]
  have kb2 : k ≤ 1000000 := by omega
  have Hk0 := Lib.hid hk0
  clear hk hG h2 hnx hfr hno1 ha hk0
  go_quiet (fail)
  go_wp2_with fail
  have h5 := h4.drewN (k2 + nq)
  generalize w1.drewN (k2 + nq) = w5 at h5 ⊢
  rw [← hD0] at h5
  clear hkb hkc h4 d3 hD0
  have hok2 := hok1
  have ek : IntKind.i64.wrap (k : Int) = (k : Int) := wraps_i64' _ (by omega) (by omega)
  have k1 : (k : Int) ≤ 1000000 := by omega
  have hS : ∀ (D' : Fls) (w' : World), Sat B (pt q (wlC p pre most (.slice fa k fc)) :: row 87 3 (.slice fa k fc) k (G.flatMap wfC) :: stars (G.map recP) :: disk p room D' :: L) w' → w'.cell? ⟨q, 0, none⟩ = some (.pointer (some ⟨p, 0, none⟩)) ∧ w'.cell? ⟨q, 3, none⟩ = some (.slice fa k fc) := fun D' w' h' => ⟨h'.pt_cell 0, h'.pt_cell 3⟩
  have hc1 : ∀ w', Sat B (pt q (wlC p pre most (.slice fa k fc)) :: row 87 3 (.slice fa k fc) k (G.flatMap wfC) :: stars (G.map recP) :: disk p room D1 :: L) w' → w'.cell? ⟨q, 1, none⟩ = some (.string (bA pre)) := fun w' h' => h'.pt_cell 1
  go_wp2_with fail
  have h5d := h5.drew
  have hs0 := hS _ _ h5d
  go_region_held3 (fun w' => w'.cell? ⟨q, 0, none⟩ = some (.pointer (some ⟨p, 0, none⟩)) ∧ w'.cell? ⟨q, 3, none⟩ = some (.slice fa k fc))
    (first | exact hs0 | exact hS _ _ h7 | exact hS _ _ h6)
    (first
      | (go_at_call 37; refine (pwName hE nx (by omega) h5d hc1 hpl).mono ?_; rintro y w6 ⟨rfl, h6⟩; rw [Hnm.out])
      | (go_at_call 17; refine (pdAppend nm s hnl (by omega) h6.p3).mono ?_; rintro y w7 ⟨rfl, h7'⟩; have h7 := h7'.q3))
  obtain ⟨z, hz⟩ : ∃ z, (appendD room D1 nm s).1 = z := ⟨_, rfl⟩
  have hap := Hap.out
  rw [hz] at hap ⊢
  by_cases h0 : z = 0
  · subst h0
    rw [if_pos rfl] at hap
    have Hap2 := Lib.hid hap
    obtain ⟨D2, hD2⟩ : ∃ D2, (appendD room D1 nm s).2 = D2 := ⟨_, rfl⟩
    rw [hD2] at h7
    have HD2 := Lib.hid hD2
    have c3 := h7.pt_cell 3
    have h8 := (h7.swap.alloc (.cells #[.int .u64 (nx : Int), .int .i64 0, .slice none 0 0] 87)).swap
    have b4 : k + 1 ≤ maxLen := by unfold maxLen; omega
    have b5 : (k + 1) * 40 ≤ 140737488355328 := by omega
    have hone : ∀ u ∈ [Value.int .u64 (nx : Int), .int .i64 0, .slice none 0 0], u.oneCell' = true := by
      intro u hu
      simp only [List.mem_cons, List.not_mem_nil, or_false] at hu
      rcases hu with rfl | rfl | rfl <;> rfl
    have hrn : reads (w7.alloc (.cells #[.int .u64 (nx : Int), .int .i64 0, .slice none 0 0] 87)) (.slice (some ⟨w7.heap.size, 0, none⟩) 1 1) 1 [.int .u64 (nx : Int), .int .i64 0, .slice none 0 0] := reads_new _ _ rfl (by omega)
    obtain ⟨fv, hfv⟩ : ∃ fv, Value.slice fa k fc = fv := ⟨_, rfl⟩
    rw [hfv] at c3 h8
    have Hfv := Lib.hid hfv
    have c3' : w7.cell? ⟨q, 3, none⟩ = some fv := c3
    clear hap hD2 hz h5 h5d hs0 h6 h7' c3 hS hc1
    go_wp2_with (at_builtin; refine wpList_append_row rfl fileElem (.tmp 101) (.tmp 105) rfl fv _ k 1 (G.flatMap wfC) [.int .u64 (nx : Int), .int .i64 0, .slice none 0 0] rfl rfl h8 hrn rfl hone b4 b5 ?_; intro a' c' w9 h9; have k3 := h9.p2.pt_cell 3; have f3 := h9.p2.pt_free 3; go_frame)
    have h10 := wal_set h9
    generalize w9.setCell ⟨q, 3, none⟩ (.slice a' (k + 1) c') = w10 at h10 ⊢
    obtain ⟨g, off, rfl⟩ := row_some (g := Unit) h10.swap (by omega)
    have hc' : c' ≤ 9223372036854775807 := by
      obtain ⟨_, _, e, _, _, hcc, _⟩ := h10.swap.row_reads
      cases e
      unfold maxLen at hcc; omega
    have h11 := Sat.row_nil h10 9 1
    obtain ⟨v, hv⟩ : ∃ v, Value.slice none 0 0 = v := ⟨_, rfl⟩
    rw [hv] at h11
    have exs : G.flatMap wfC ++ [.int .u64 (nx : Int), .int .i64 0, v] = (G ++ [((⟨nx, []⟩ : WF), v)]).flatMap wfC := by simp [wfC, goodB]
    rw [exs] at h11
    have Hx : Hid ((G ++ [((⟨nx, []⟩ : WF), v)])[k]? = some (⟨nx, []⟩, v)) := Lib.hid (by rw [← Hk.out]; simp)
    have e3 := h11.p1.pt_cell 3
    have e3' : w10.cell? ⟨q, 3, none⟩ = some (.slice (some ⟨g, off, none⟩) (k + 1) c') := e3
    clear hv exs h8 h9 h10 k3 f3 e3 c3' h7
    go_quiet (fail)
    have h12 := h11.drewN nq
    generalize w10.drewN nq = w11 at h12 ⊢
    obtain ⟨j4, j5a, j6, _⟩ := file_at h12.p2 Hx.out
    have j5 : w11.cell? ⟨g, off + k * 3 + 1, none⟩ = some (.int .i64 0) := by rw [j5a]; simp [goodB]
    clear j5a j4
    simp only at j6
    obtain ⟨g2, o2, e, _, f1, _⟩ := h12.p2.row_cell (k * 3 + 1) (by omega)
    cases e
    rw [← Nat.add_assoc] at f1
    have h13 := h12.p2.row_set (k * 3 + 1) (by omega) (u := .int .i64 (s.length : Int)) rfl
    rw [← Nat.add_assoc] at h13
    have h14 := (h13.swap.alloc' (.cells #[.string (bA r)] 9) (n := w11.heap.size) (by simp)).swap
    have hrn2 : reads ((w11.setCell ⟨g, off + k * 3 + 1, none⟩ (.int .i64 (s.length : Int))).alloc (.cells #[.string (bA r)] 9)) (.slice (some ⟨w11.heap.size, 0, none⟩) 1 1) 1 [.string (bA r)] := reads_new _ _ (by simp) (by omega)
    clear h11 h12 h13 e3'
    go_wp2_with (at_builtin; refine wpList_append_row rfl strElem (.tmp 135) (.tmp 137) rfl v _ 0 1 [] [.string (bA r)] rfl rfl h14 hrn2 rfl (by simp [Value.oneCell']) (by unfold maxLen; omega) (by omega) ?_; intro a2 c2 w12 h15; obtain ⟨g3, o3, e, k3, f3, _⟩ := h15.p2.row_cell (k * 3 + 2) (by omega); cases e; rw [← Nat.add_assoc] at f3 k3; rw [List.getElem?_set_ne (by omega), (wf_get Hx.out).2.2] at k3; go_frame)
    go_ret
    unfold AppPost
    rw [Hap2.out]
    refine ⟨rfl, ?_⟩
    have h16 := h15.swap.drop.swap.row_set (k * 3 + 2) (by omega) (u := .slice a2 (0 + 1) c2) rfl
    rw [← Nat.add_assoc] at h16
    have e := wf_set G (f := ⟨nx, []⟩) (f' := ⟨nx, [r]⟩) v (u := .int .i64 (s.length : Int)) (v' := .slice a2 (0 + 1) c2) rfl (by rw [Hsl.out]; simp [WF.size, goodB])
    rw [Hk.out] at e
    rw [e] at h16
    have h17 : Sat B (stars (List.map recP G ++ [recP (⟨nx, [r]⟩, .slice a2 (0 + 1) c2)]) :: _) _ := Sat.mid' (L2 := []) (A := recP (⟨nx, [r]⟩, .slice a2 (0 + 1) c2)) (by
      have := h16.p3.p2
      rw [List.append_nil]
      exact this)
    rw [HD2.out]
    refine wal_close (G := G ++ [(⟨nx, [r]⟩, .slice a2 (0 + 1) c2)]) (fv := .slice (some ⟨g, off, none⟩) (k + 1) c') (by rw [List.map_append, HG.out]; rfl) ⟨hpl, fun x hx => ?_, fun x hx => ?_, by rw [List.length_append, List.length_singleton]; exact hmany⟩ ?_
    · rcases List.mem_append.1 hx with hx | hx
      · exact Hok.out.first x hx
      · obtain rfl := List.mem_singleton.1 hx; exact ⟨nx0, nxb⟩
    · rcases List.mem_append.1 hx with hx | hx
      · exact Hok.out.recs x hx
      · obtain rfl := List.mem_singleton.1 hx
        have := Hsl.out
        simp [WF.size, goodB]
        omega
    · rw [List.length_append, Hk.out, List.map_append]
      exact h17.swap.p2
  · rw [if_neg h0] at hap
    obtain ⟨e1, _⟩ := append_err (by rw [hz]; exact h0 : (appendD room D1 nm s).1 ≠ 0)
    rw [e1] at h7
    have z1 : (z == 0) = false := by simpa using h0
    have z2 : (z != 0) = true := by simpa using h0
    have Hap2 := Lib.hid hap
    clear hap hz e1 h0 h5 h5d hs0 h6 h7'
    go_wp2_with fail
    go_ret
    unfold AppPost
    rw [Hap2.out]
    exact ⟨rfl, wal_close HG.out Hok.out (fv := .slice fa k fc) (by rw [Hk.out]; exact h7)⟩
/-- The last file has its bytes. -/
theorem pwAppend_next (hE : Env B) (hsz : most ≤ f.size) (hr : r.length ≤ 1048576) (hmost : most ≤ 9223372036854775807) (hmany : (F' ++ [f]).length + 1 ≤ 1000000) (hnext : nextW (F' ++ [f]) ≤ 1000000000000000) (h : Sat B (wal q p pre most (F' ++ [f]) :: disk p room D :: L) w) :
    Calls Tryz.prog 10 #[.pointer (some ⟨q, 0, none⟩), .string (bA r)] w (AppPost B L q p most room pre D (F' ++ [f]) r) := by
  obtain ⟨fv1, G1, hG1, hok1, h1⟩ := wal_open h
  have c0 : w.cell? ⟨q, 0, none⟩ = some (.pointer (some ⟨p, 0, none⟩)) := h1.pt_cell 0
  have hno := pwNone (q := q) c0
  obtain ⟨a1, c1, rfl, ha1, _, hc1⟩ := h1.swap.row_reads
  have hc1 : c1 ≤ 9223372036854775807 := by have := hc1.1; unfold maxLen at this; omega
  obtain ⟨G', v1, rfl, hG'⟩ := wal_snoc hG1
  obtain ⟨m, hm⟩ : ∃ m, G'.length = m := ⟨_, rfl⟩
  have hx : (G' ++ [(f, v1)])[m]? = some (f, v1) := by rw [← hm]; simp
  have hlen : (G' ++ [(f, v1)]).length = m + 1 := by simp [hm]
  rw [hlen] at h1 ha1
  obtain ⟨g1, off1, rfl⟩ := row_some (g := Unit) h1.swap (by omega)
  have hFl : F'.length = m := by rw [← hG', List.length_map, hm]
  have b0 : m ≤ 1000000 := by have := hok1.many; simp at this; omega
  have b1 : (m : Int) ≤ 1000000 := by omega
  have b2 : (m : Int) < (m : Int) + 1 := by omega
  have b3 : ((m : Int) + 1 == 0) = false := by simp; omega
  have b6 : (m : Int) + 1 > 0 := by omega
  have ew : IntKind.i64.wrap (m : Int) = (m : Int) := wraps_i64' _ (by omega) (by omega)
  obtain ⟨sz, hsz0⟩ : ∃ sz, f.size = sz := ⟨_, rfl⟩
  have hsz1 : sz ≤ 1099511627776 := by rw [← hsz0]; exact hok1.recs f (by simp)
  have hS0 : ∀ (w' : World), Sat B (pt q (wlC p pre most (.slice (some ⟨g1, off1, none⟩) (m + 1) c1)) :: row 87 3 (.slice (some ⟨g1, off1, none⟩) (m + 1) c1) (m + 1) ((G' ++ [(f, v1)]).flatMap wfC) :: stars ((G' ++ [(f, v1)]).map recP) :: disk p room D :: L) w' →
      w'.cell? ⟨q, 2, none⟩ = some (.int .i64 (most : Int)) ∧ w'.cell? ⟨q, 3, none⟩ = some (.slice (some ⟨g1, off1, none⟩) (m + 1) c1) ∧ w'.cell? ⟨g1, off1 + m * 3 + 1, none⟩ = some (.int .i64 (sz : Int)) := fun w' h' => by
    obtain ⟨d1, d2, _⟩ := file_at h'.swap hx
    exact ⟨h'.pt_cell 2, h'.pt_cell 3, by rw [← hsz0]; exact d2⟩
  have hcl : ∀ w', Sat B (pt q (wlC p pre most (.slice (some ⟨g1, off1, none⟩) (m + 1) c1)) :: row 87 3 (.slice (some ⟨g1, off1, none⟩) (m + 1) c1) (m + 1) ((G' ++ [(f, v1)]).flatMap wfC) :: stars ((G' ++ [(f, v1)]).map recP) :: disk p room D :: L) w' →
      Sat B (wal q p pre most (F' ++ [f]) :: disk p room D :: L) w' := fun w' h' => wal_close hG1 hok1 (fv := .slice (some ⟨g1, off1, none⟩) (m + 1) c1) (by rw [hlen]; exact h')
  have hnx := fun w' h' => pwNext (hcl w' h')
  have hsy := fun w' h' => pwSync hE (hcl w' h')
  have hfr := psFrame r hr h1
  obtain ⟨s, hs⟩ : ∃ s, frameB r = s := ⟨_, rfl⟩
  have hsl : s.length = 8 + r.length := by rw [← hs, frame_len]
  have hap := appW_new (room := room) (most := most) (p := pre) (D := D) (F := F' ++ [f]) (r := r) (by omega) (by rw [freshW_snoc]; simpa using hsz) (by omega)
  have nxa : 1 ≤ nextW (F' ++ [f]) := by rw [nextW_snoc]; have := (hok1.first f (by simp)).1; unfold WF.next; omega
  obtain ⟨nx, hn⟩ : ∃ nx, nextW (F' ++ [f]) = nx := ⟨_, rfl⟩
  obtain ⟨D1, hD1⟩ : ∃ D1, syncW D pre (F' ++ [f]) = D1 := ⟨_, rfl⟩
  rw [hs] at hap hfr
  rw [hn, hD1] at hap
  rw [hn] at hnx hnext nxa
  rw [hD1] at hsy
  obtain ⟨nm, hnm⟩ : ∃ nm, nameW pre nx = nm := ⟨_, rfl⟩
  have hnl : nm.length ≤ 9223372036854775807 := by rw [← hnm, name_len ⟨by omega, by omega⟩]; have := hok1.pre; omega
  rw [hnm] at hap
  have Hap := Lib.hid hap
  have Hnm := Lib.hid hnm
  have Hsl := Lib.hid hsl
  have hpl := hok1.pre
  have Hok := Lib.hid hok1
  have Hlen := Lib.hid hlen
  have HFl := Lib.hid hFl
  have hszs : (bA s).size = s.length := by simp [ByteArray.size]
  have s1 : (s.length : Int) ≤ 1048584 := by omega
  have s2 : s.length ≤ 1048584 := by omega
  have nxb : nx ≤ 1000000000000000 := hnext
  have nx0 : 1 ≤ nx := nxa
  have nxc : ¬ ((nx : Int) > 1000000000000000) := by omega
  have ns2 : (sz : Int) ≥ (most : Int) := by omega
  have hsz2 : (sz : Int) ≤ 1099511627776 := by omega
  clear hap hnm hs hsl hn hD1 h hG1 hG' hm hx hlen h1 hsz0 hFl hnext nxa c0 hsz ha1
  go_enter Tryz.func10, Tryz.ntmps10
  go_wp2_with (first
    | (go_at_call 39; refine hno.mono ?_; rintro y w1 ⟨rfl, rfl⟩)
    | (go_at_call 41; refine hfr.mono ?_; rintro y w1 ⟨rfl, h2⟩)
    | (go_at_call 14; refine (hnx _ h2).mono ?_; rintro y w2 ⟨rfl, k2, rfl⟩))
  obtain ⟨d2, d3, ds⟩ := hS0 _ h2
  go_quiet (fail)
  have hA := h2.drewN (k2 + nq)
  go_wp2_with (go_at_call 9; refine (hsy _ hA).mono ?_; rintro y w5 ⟨rfl, h5w⟩)
  obtain ⟨fv0, G, hG, _, h5⟩ := wal_open h5w
  obtain ⟨fa, fc, rfl, ha, _, hc⟩ := h5.swap.row_reads
  have hc : fc ≤ 9223372036854775807 := by have := hc.1; unfold maxLen at this; omega
  obtain ⟨k, hk⟩ : ∃ k, G.length = k := ⟨_, rfl⟩
  rw [hk] at h5 ha
  have Hk := Lib.hid hk
  have HG := Lib.hid hG
  have kb2 : k ≤ 1000000 := by have := congrArg List.length hG; rw [List.length_map, hk] at this; omega
  clear hk hG h5w hA hnx hfr hno hsy hS0 hcl d2 d3 ds h2
  have hok2 := hok1
  have ek : IntKind.i64.wrap (k : Int) = (k : Int) := wraps_i64' _ (by omega) (by omega)
  have k1 : (k : Int) ≤ 1000000 := by omega
  have hS : ∀ (D' : Fls) (w' : World), Sat B (pt q (wlC p pre most (.slice fa k fc)) :: row 87 3 (.slice fa k fc) k (G.flatMap wfC) :: stars (G.map recP) :: disk p room D' :: L) w' → w'.cell? ⟨q, 0, none⟩ = some (.pointer (some ⟨p, 0, none⟩)) ∧ w'.cell? ⟨q, 3, none⟩ = some (.slice fa k fc) := fun D' w' h' => ⟨h'.pt_cell 0, h'.pt_cell 3⟩
  have hc1 : ∀ w', Sat B (pt q (wlC p pre most (.slice fa k fc)) :: row 87 3 (.slice fa k fc) k (G.flatMap wfC) :: stars (G.map recP) :: disk p room D1 :: L) w' → w'.cell? ⟨q, 1, none⟩ = some (.string (bA pre)) := fun w' h' => h'.pt_cell 1
  go_wp2_with fail
  have h5d := h5.drew
  have hs0 := hS _ _ h5d
  go_region_held3 (fun w' => w'.cell? ⟨q, 0, none⟩ = some (.pointer (some ⟨p, 0, none⟩)) ∧ w'.cell? ⟨q, 3, none⟩ = some (.slice fa k fc))
    (first | exact hs0 | exact hS _ _ h7 | exact hS _ _ h6)
    (first
      | (go_at_call 37; refine (pwName hE nx (by omega) h5d hc1 hpl).mono ?_; rintro y w6 ⟨rfl, h6⟩; rw [Hnm.out])
      | (go_at_call 17; refine (pdAppend nm s hnl (by omega) h6.p3).mono ?_; rintro y w7 ⟨rfl, h7'⟩; have h7 := h7'.q3))
  obtain ⟨z, hz⟩ : ∃ z, (appendD room D1 nm s).1 = z := ⟨_, rfl⟩
  have hap := Hap.out
  rw [hz] at hap ⊢
  by_cases h0 : z = 0
  · subst h0
    rw [if_pos rfl] at hap
    have Hap2 := Lib.hid hap
    obtain ⟨D2, hD2⟩ : ∃ D2, (appendD room D1 nm s).2 = D2 := ⟨_, rfl⟩
    rw [hD2] at h7
    have HD2 := Lib.hid hD2
    have c3 := h7.pt_cell 3
    have h8 := (h7.swap.alloc (.cells #[.int .u64 (nx : Int), .int .i64 0, .slice none 0 0] 87)).swap
    have b4 : k + 1 ≤ maxLen := by unfold maxLen; omega
    have b5 : (k + 1) * 40 ≤ 140737488355328 := by omega
    have hone : ∀ u ∈ [Value.int .u64 (nx : Int), .int .i64 0, .slice none 0 0], u.oneCell' = true := by
      intro u hu
      simp only [List.mem_cons, List.not_mem_nil, or_false] at hu
      rcases hu with rfl | rfl | rfl <;> rfl
    have hrn : reads (w7.alloc (.cells #[.int .u64 (nx : Int), .int .i64 0, .slice none 0 0] 87)) (.slice (some ⟨w7.heap.size, 0, none⟩) 1 1) 1 [.int .u64 (nx : Int), .int .i64 0, .slice none 0 0] := reads_new _ _ rfl (by omega)
    obtain ⟨fv, hfv⟩ : ∃ fv, Value.slice fa k fc = fv := ⟨_, rfl⟩
    rw [hfv] at c3 h8
    have Hfv := Lib.hid hfv
    have c3' : w7.cell? ⟨q, 3, none⟩ = some fv := c3
    clear hap hD2 hz h5 h5d hs0 h6 h7' c3 hS hc1
    go_wp2_with (at_builtin; refine wpList_append_row rfl fileElem (.tmp 101) (.tmp 105) rfl fv _ k 1 (G.flatMap wfC) [.int .u64 (nx : Int), .int .i64 0, .slice none 0 0] rfl rfl h8 hrn rfl hone b4 b5 ?_; intro a' c' w9 h9; have k3 := h9.p2.pt_cell 3; have f3 := h9.p2.pt_free 3; go_frame)
    have h10 := wal_set h9
    generalize w9.setCell ⟨q, 3, none⟩ (.slice a' (k + 1) c') = w10 at h10 ⊢
    obtain ⟨g, off, rfl⟩ := row_some (g := Unit) h10.swap (by omega)
    have hc' : c' ≤ 9223372036854775807 := by
      obtain ⟨_, _, e, _, _, hcc, _⟩ := h10.swap.row_reads
      cases e
      unfold maxLen at hcc; omega
    have h11 := Sat.row_nil h10 9 1
    obtain ⟨v, hv⟩ : ∃ v, Value.slice none 0 0 = v := ⟨_, rfl⟩
    rw [hv] at h11
    have exs : G.flatMap wfC ++ [.int .u64 (nx : Int), .int .i64 0, v] = (G ++ [((⟨nx, []⟩ : WF), v)]).flatMap wfC := by simp [wfC, goodB]
    rw [exs] at h11
    have Hx : Hid ((G ++ [((⟨nx, []⟩ : WF), v)])[k]? = some (⟨nx, []⟩, v)) := Lib.hid (by rw [← Hk.out]; simp)
    have e3 := h11.p1.pt_cell 3
    have e3' : w10.cell? ⟨q, 3, none⟩ = some (.slice (some ⟨g, off, none⟩) (k + 1) c') := e3
    clear hv exs h8 h9 h10 k3 f3 e3 c3' h7
    go_quiet (fail)
    have h12 := h11.drewN nq
    generalize w10.drewN nq = w11 at h12 ⊢
    obtain ⟨j4, j5a, j6, _⟩ := file_at h12.p2 Hx.out
    have j5 : w11.cell? ⟨g, off + k * 3 + 1, none⟩ = some (.int .i64 0) := by rw [j5a]; simp [goodB]
    clear j5a j4
    simp only at j6
    obtain ⟨g2, o2, e, _, f1, _⟩ := h12.p2.row_cell (k * 3 + 1) (by omega)
    cases e
    rw [← Nat.add_assoc] at f1
    have h13 := h12.p2.row_set (k * 3 + 1) (by omega) (u := .int .i64 (s.length : Int)) rfl
    rw [← Nat.add_assoc] at h13
    have h14 := (h13.swap.alloc' (.cells #[.string (bA r)] 9) (n := w11.heap.size) (by simp)).swap
    have hrn2 : reads ((w11.setCell ⟨g, off + k * 3 + 1, none⟩ (.int .i64 (s.length : Int))).alloc (.cells #[.string (bA r)] 9)) (.slice (some ⟨w11.heap.size, 0, none⟩) 1 1) 1 [.string (bA r)] := reads_new _ _ (by simp) (by omega)
    clear h11 h12 h13 e3'
    go_wp2_with (at_builtin; refine wpList_append_row rfl strElem (.tmp 135) (.tmp 137) rfl v _ 0 1 [] [.string (bA r)] rfl rfl h14 hrn2 rfl (by simp [Value.oneCell']) (by unfold maxLen; omega) (by omega) ?_; intro a2 c2 w12 h15; obtain ⟨g3, o3, e, k3, f3, _⟩ := h15.p2.row_cell (k * 3 + 2) (by omega); cases e; rw [← Nat.add_assoc] at f3 k3; rw [List.getElem?_set_ne (by omega), (wf_get Hx.out).2.2] at k3; go_frame)
    go_ret
    unfold AppPost
    rw [Hap2.out]
    refine ⟨rfl, ?_⟩
    have h16 := h15.swap.drop.swap.row_set (k * 3 + 2) (by omega) (u := .slice a2 (0 + 1) c2) rfl
    rw [← Nat.add_assoc] at h16
    have e := wf_set G (f := ⟨nx, []⟩) (f' := ⟨nx, [r]⟩) v (u := .int .i64 (s.length : Int)) (v' := .slice a2 (0 + 1) c2) rfl (by rw [Hsl.out]; simp [WF.size, goodB])
    rw [Hk.out] at e
    rw [e] at h16
    have h17 : Sat B (stars (List.map recP G ++ [recP (⟨nx, [r]⟩, .slice a2 (0 + 1) c2)]) :: _) _ := Sat.mid' (L2 := []) (A := recP (⟨nx, [r]⟩, .slice a2 (0 + 1) c2)) (by
      have := h16.p3.p2
      rw [List.append_nil]
      exact this)
    rw [HD2.out]
    refine wal_close (G := G ++ [(⟨nx, [r]⟩, .slice a2 (0 + 1) c2)]) (fv := .slice (some ⟨g, off, none⟩) (k + 1) c') (by rw [List.map_append, HG.out]; rfl) ⟨hpl, fun x hx => ?_, fun x hx => ?_, by rw [List.length_append, List.length_singleton]; exact hmany⟩ ?_
    · rcases List.mem_append.1 hx with hx | hx
      · exact Hok.out.first x hx
      · obtain rfl := List.mem_singleton.1 hx; exact ⟨nx0, nxb⟩
    · rcases List.mem_append.1 hx with hx | hx
      · exact Hok.out.recs x hx
      · obtain rfl := List.mem_singleton.1 hx
        have := Hsl.out
        simp [WF.size, goodB]
        omega
    · rw [List.length_append, Hk.out, List.map_append]
      exact h17.swap.p2
  · rw [if_neg h0] at hap
    obtain ⟨e1, _⟩ := append_err (by rw [hz]; exact h0 : (appendD room D1 nm s).1 ≠ 0)
    rw [e1] at h7
    have z1 : (z == 0) = false := by simpa using h0
    have z2 : (z != 0) = true := by simpa using h0
    have Hap2 := Lib.hid hap
    clear hap hz e1 h0 h5 h5d hs0 h6 h7'
    go_wp2_with fail
    go_ret
    unfold AppPost
    rw [Hap2.out]
    exact ⟨rfl, wal_close HG.out Hok.out (fv := .slice fa k fc) (by rw [Hk.out]; exact h7)⟩
end
end Go.Proofs.YtdngjkjoahgelaaGreatDoor
