/-
  WalPlays: the program's log at its corners: Open with no room in a file, Append behind the last number. WalPlays, plain law: the log whatever the room: Append.
-/
import Derived.Test.YtdngjkjoahgelaaGreatDoorQsA
import Derived.Test.YtdngjkjoahgelaaGreatDoorQpA
namespace Go.Proofs.YtdngjkjoahgelaaGreatDoor
set_option linter.all false
set_option maxRecDepth 100000
set_option maxHeartbeats 2000000
open Go.RowKit
section
variable {B w w' : World} {L : List HP} {p q room most : Nat} {pre r : Bt} {D : Fls} {F F' : List WF} {f : WF}
theorem pwOpen_bad (m : Int) (hm : m < 1) (hp : pre.length ≤ 48) :
    Calls Tryz.prog 8 #[.pointer (some ⟨p, 0, none⟩), .string (bA pre), .int .i64 m] w fun y w' => y = .returned (.tuple #[.pointer none, .int .i64 2]) ∧ w' = w := by
  have hzp : (bA pre).size = pre.length := by simp [ByteArray.size]
  have b1 : (pre.length : Int) ≤ 48 := by omega
  have b3 : ¬ (pre.length : Int) > 48 := by omega
  go_enter Tryz.func8, Tryz.ntmps8
  go_wp2_with fail
  go_step3
  go_wp2_with fail
  rw [Exit.noGoto_ret]
  go_ret2
  exact ⟨rfl, rfl⟩
theorem pwAppend_far (hsz : most ≤ f.size) (hr : r.length ≤ 1048576) (hnext : 1000000000000000 < nextW (F' ++ [f])) (h : Sat B (wal q p pre most (F' ++ [f]) :: disk p room D :: L) w) :
    Calls Tryz.prog 10 #[.pointer (some ⟨q, 0, none⟩), .string (bA r)] w (AppPost B L q p most room pre D (F' ++ [f]) r) := by
  have hap : appendW room most pre D (F' ++ [f]) r = (7, D, F' ++ [f]) := by
    rw [appendW, if_neg (by omega), if_pos (by rw [freshW_snoc]; simpa using hsz), if_pos hnext]
  obtain ⟨fv1, G1, hG1, hok1, h1⟩ := wal_open h
  have c0 : w.cell? ⟨q, 0, none⟩ = some (.pointer (some ⟨p, 0, none⟩)) := h1.pt_cell 0
  have hno := pwNone (q := q) c0
  obtain ⟨a1, c1, rfl, ha1, _, hc1⟩ := h1.swap.row_reads
  have hc1 : c1 ≤ 9223372036854775807 := by have := hc1.1; unfold maxLen at this; omega
  obtain ⟨G', v1, rfl, hG'⟩ := wal_snoc hG1
  obtain ⟨m, hm⟩ : ∃ m, G'.length = m := ⟨_, rfl⟩
  have hx : (G' ++ [(f, v1)])[m]? = some (f, v1) := by rw [← hm]; simp
  have hlen : (G' ++ [(f, v1)]).length = m + 1 := by simp [hm]
  rw [hlen] at h1 ha1
  obtain ⟨g1, off1, rfl⟩ := row_some (g := Unit) h1.swap (by omega)
  have hFl : F'.length = m := by rw [← hG', List.length_map, hm]
  have b0 : m ≤ 1000000 := by have := hok1.many; simp at this; omega
  have b1 : (m : Int) ≤ 1000000 := by omega
  have b2 : (m : Int) < (m : Int) + 1 := by omega
  have b3 : ((m : Int) + 1 == 0) = false := by simp; omega
  have b6 : (m : Int) + 1 > 0 := by omega
  have ew : IntKind.i64.wrap (m : Int) = (m : Int) := wraps_i64' _ (by omega) (by omega)
  obtain ⟨sz, hsz0⟩ : ∃ sz, f.size = sz := ⟨_, rfl⟩
  have hsz1 : sz ≤ 1099511627776 := by rw [← hsz0]; exact hok1.recs f (by simp)
  have hS0 : ∀ (w' : World), Sat B (pt q (wlC p pre most (.slice (some ⟨g1, off1, none⟩) (m + 1) c1)) :: row 87 3 (.slice (some ⟨g1, off1, none⟩) (m + 1) c1) (m + 1) ((G' ++ [(f, v1)]).flatMap wfC) :: stars ((G' ++ [(f, v1)]).map recP) :: disk p room D :: L) w' →
      w'.cell? ⟨q, 2, none⟩ = some (.int .i64 (most : Int)) ∧ w'.cell? ⟨q, 3, none⟩ = some (.slice (some ⟨g1, off1, none⟩) (m + 1) c1) ∧ w'.cell? ⟨g1, off1 + m * 3 + 1, none⟩ = some (.int .i64 (sz : Int)) := fun w' h' => by
    obtain ⟨d1, d2, _⟩ := file_at h'.swap hx
    exact ⟨h'.pt_cell 2, h'.pt_cell 3, by rw [← hsz0]; exact d2⟩
  have hcl : ∀ w', Sat B (pt q (wlC p pre most (.slice (some ⟨g1, off1, none⟩) (m + 1) c1)) :: row 87 3 (.slice (some ⟨g1, off1, none⟩) (m + 1) c1) (m + 1) ((G' ++ [(f, v1)]).flatMap wfC) :: stars ((G' ++ [(f, v1)]).map recP) :: disk p room D :: L) w' →
      Sat B (wal q p pre most (F' ++ [f]) :: disk p room D :: L) w' := fun w' h' => wal_close hG1 hok1 (fv := .slice (some ⟨g1, off1, none⟩) (m + 1) c1) (by rw [hlen]; exact h')
  have hnx := fun w' h' => pwNext (hcl w' h')
  have hfr := psFrame r hr h1
  obtain ⟨s, hs⟩ : ∃ s, frameB r = s := ⟨_, rfl⟩
  obtain ⟨nx, hn⟩ : ∃ nx, nextW (F' ++ [f]) = nx := ⟨_, rfl⟩
  rw [hs] at hfr
  rw [hn] at hnx hnext
  have Hap := Lib.hid hap
  have Hcl := Lib.hid hcl
  have nxc : (nx : Int) > 1000000000000000 := by omega
  have ns2 : (sz : Int) ≥ (most : Int) := by omega
  have hsz2 : (sz : Int) ≤ 1099511627776 := by omega
  clear hap hs hn h hG1 hG' hm hx hlen h1 hsz0 hFl hnext c0 hsz ha1 hcl
  go_enter Tryz.func10, Tryz.ntmps10
  go_wp2_with (first
    | (go_at_call 39; refine hno.mono ?_; rintro y w1 ⟨rfl, rfl⟩)
    | (go_at_call 41; refine hfr.mono ?_; rintro y w1 ⟨rfl, h2⟩)
    | (go_at_call 14; refine (hnx _ h2).mono ?_; rintro y w2 ⟨rfl, k2, rfl⟩))
  obtain ⟨d2, d3, ds⟩ := hS0 _ h2
  go_quiet (fail)
  have hA := h2.drewN (k2 + nq)
  go_wp2_with fail
  go_ret
  unfold AppPost
  rw [Hap.out]
  exact ⟨rfl, Hcl.out _ hA⟩
/-- 'Append', whatever the log's next number is. -/
theorem pwAppendA (hE : Env B) (hr : r.length ≤ 1048576) (hmost : most ≤ 9223372036854775807) (hmany : F.length + 1 ≤ 1000000) (hsz : ∀ f ∈ F, f.size + 2000000 ≤ 1099511627776) (h : Sat B (wal q p pre most F :: disk p room D :: L) w) :
    Calls Tryz.prog 10 #[.pointer (some ⟨q, 0, none⟩), .string (bA r)] w (AppPost B L q p most room pre D F r) := by
  rcases snoc_cases F with rfl | ⟨F', f, rfl⟩
  · exact pwAppend_first hE hr hmost h
  · by_cases hf : most ≤ f.size
    · by_cases hn : nextW (F' ++ [f]) ≤ 1000000000000000
      · exact pwAppend_next hE hf hr hmost hmany hn h
      · exact pwAppend_far hf hr (by omega) h
    · exact pwAppend_old hE hf hr (hsz f (by simp)) hmost h
end
end Go.Proofs.YtdngjkjoahgelaaGreatDoor

namespace Go.Proofs.YtdngjkjoahgelaaGreatDoor
set_option linter.all false
section
variable {room most : Nat} {p : Bt} {D : Fls} {F : List WF}
/-- Whatever the room: what Append leaves is a log. -/
theorem Log.app_any (h : Log room p D F) (hm : 1 ≤ most) (r : Bt) (hr : r.length ≤ 1048576) :
    Log room p (appendW room most p D F r).2.1 (appendW room most p D F r).2.2 ∧ usedD (appendW room most p D F r).2.1 ≤ usedD D + (8 + r.length) ∧ (appendW room most p D F r).2.2.length ≤ F.length + 1 := by
  by_cases hn : freshW most F = true → nextW F ≤ 1000000000000000
  · by_cases hu : usedD D + (8 + r.length) ≤ room
    · obtain ⟨D', F', e, h1, _, _, h2, h3, _⟩ := h.append' hm r hr hu hn
      rw [e]
      exact ⟨h1, by rw [h2]; exact Nat.le_refl _, h3⟩
    · have hfr : ¬ 1048576 < r.length := by omega
      have hfl := frame_len r
      by_cases hf : freshW most F = true
      · obtain ⟨hs1, _, hs3, _⟩ := h.sync
        have hnk := name_ok (p := p) ⟨h.next_pos, hn hf⟩ h.pre
        have hap := append_full (d := frameB r) (room := room) hnk (D := syncW D p F) (by omega)
        have e : appendW room most p D F r = (7, syncW D p F, F) := by
          unfold appendW
          rw [if_neg hfr, if_pos hf, if_neg (by have := hn hf; omega)]
          simp only [hap]
          rfl
        rw [e]
        exact ⟨hs1, by simp only; omega, by simp⟩
      · rcases snoc_cases F with rfl | ⟨G, f, rfl⟩
        · exact absurd rfl hf
        · have hnk := name_ok (p := p) (h.rng f (by simp)) h.pre
          have hap := append_full (d := frameB r) (room := room) hnk (D := D) (by omega)
          rw [freshW_snoc] at hf
          rw [appW_old (by omega) (by simpa using hf), hap, if_neg (show ¬ (7 : Int) = 0 by decide)]
          exact ⟨h, by simp only; omega, by simp⟩
  · have hf : freshW most F = true := by
      cases hc : freshW most F with
      | true => rfl
      | false => exact absurd (fun e => by rw [hc] at e; cases e) hn
    have hx : ¬ nextW F ≤ 1000000000000000 := fun e => hn fun _ => e
    have e : appendW room most p D F r = (7, D, F) := by
      rw [appendW, if_neg (by omega), if_pos hf, if_pos (by omega)]
    rw [e]
    exact ⟨h, by simp only; omega, by simp⟩
/-- A file written anew takes the old one's place. -/
theorem used_anew (h : DOk room D) (hp : p.length ≤ 48) {n : Nat} (hn : inR n) (b : Bt) (hr : usedD D + b.length ≤ room) :
    usedD (anewW room D p n b).2 + (bytesOf (nameW p n) D).length ≤ usedD D + b.length := by
  have h1 := h.remove (tmpW p)
  have hu1 := used_remove_le (m := tmpW p) h
  have hg1 : getF (tmpW p) (removeD D (tmpW p)).2 = none := by rw [getF_remove h, if_pos rfl]
  have ha := append_ok (d := b) (room := room) (tmp_ok hp) (D := (removeD D (tmpW p)).2) (by omega)
  have hu2 := used_append (d := b) h1 (tmp_ok hp) (by omega)
  have h2 := h1.append (tmpW p) b
  have e1 : bytesOf (tmpW p) (removeD D (tmpW p)).2 = [] := by simp [bytesOf, hg1]
  have hg2 : ∀ x, getF x (appendD room (removeD D (tmpW p)).2 (tmpW p) b).2 = if tmpW p = x then some ⟨tmpW p, b, syncedOf (tmpW p) (removeD D (tmpW p)).2⟩ else getF x D := fun x => by
    rw [ha]
    show getF x (putF _ _) = _
    rw [getF_put h1.srt, e1, getF_remove h]
    split
    · rfl
    · rfl
  have h3 := h2.sync' (tmpW p)
  have hu3 := used_sync (m := tmpW p) h2
  have hg3 : ∀ x, getF x (syncD (appendD room (removeD D (tmpW p)).2 (tmpW p) b).2 (tmpW p)).2 = if tmpW p = x then some ⟨tmpW p, b, b.length⟩ else getF x D := fun x => by
    rw [getF_sync h2, hg2]
    split <;> rfl
  have hne : tmpW p ≠ nameW p n := tmp_ne hn
  have hu4 := used_rename (t := tmpW p) (x := nameW p n) h3 (by rw [hg3, if_pos rfl]) (name_ok hn hp) hne
  have e : anewW room D p n b = renameD (syncD (appendD room (removeD D (tmpW p)).2 (tmpW p) b).2 (tmpW p)).2 (tmpW p) (nameW p n) := by
    unfold anewW
    simp only [ha, if_true]
  have e5 : bytesOf (nameW p n) (syncD (appendD room (removeD D (tmpW p)).2 (tmpW p) b).2 (tmpW p)).2 = bytesOf (nameW p n) D := bytesOf_get (by rw [hg3, if_neg hne])
  rw [e5] at hu4
  rw [e]
  omega
/-- Whatever the room: what Cut leaves is a log. -/
theorem Log.cut_any (h : Log room p D F) (fr : Nat) :
    Log room p (cutW room p D F fr).2.1 (cutW room p D F fr).2.2 ∧ usedD (cutW room p D F fr).2.1 ≤ usedD D ∧ (cutW room p D F fr).2.2.length ≤ F.length := by
  by_cases h1 : fr < firstW F
  · rw [cutW, if_pos h1]; exact ⟨h, Nat.le_refl _, Nat.le_refl _⟩
  · by_cases h2 : nextW F ≤ fr
    · rw [cutW, if_neg h1, if_pos h2]; exact ⟨h, Nat.le_refl _, Nat.le_refl _⟩
    · have hF : F ≠ [] := fun e => by subst e; simp [firstW, nextW] at h1 h2; omega
      obtain ⟨D1, f, R, g1, g2, g3, g4, g5, g6, g7, g8, g9⟩ := cutBack_log (room := room) (p := p) (R := F.reverse) (D := D) fr (by rw [List.reverse_reverse]; exact h) (by simpa using hF) (by rw [List.reverse_reverse]; omega) (by rw [List.reverse_reverse]; omega)
      rw [List.length_reverse] at g9
      have hinr := g2.rng f (by simp)
      have hgt := good_take_le f.recs (fr - f.first)
      have hby := g2.bytes (f := f) (by simp)
      have hfl := frames_len f.recs
      have hfl2 := frames_len (f.recs.take (fr - f.first))
      unfold cutW
      rw [if_neg h1, if_neg h2, g1]
      simp only
      by_cases hr : usedD D1 + (framesB (f.recs.take (fr - f.first))).length ≤ room
      · obtain ⟨a1, a2, a3, a4⟩ := g2.anew (f.recs.take (fr - f.first)) (fun b hb => g2.recs f (by simp) b (List.mem_of_mem_take hb)) (by omega)
        have hu := used_anew g2.ok g2.pre hinr _ hr
        rw [hby] at hu
        rw [if_pos a1]
        exact ⟨a2, by simp only; omega, by simp; omega⟩
      · have e : anewW room D1 p f.first (framesB (f.recs.take (fr - f.first))) = (7, D1) := by
          have hx := append_full (room := room) (D := D1) (d := framesB (f.recs.take (fr - f.first))) (tmp_ok g2.pre) (by omega)
          unfold anewW
          rw [remove_none g2.tmp]
          simp only [hx]
          rfl
        rw [e, if_neg (show ¬ (7 : Int) = 0 by decide)]
        exact ⟨g2, by simp only; omega, by simp; omega⟩
theorem anew_full (h : DOk room D) (hp : p.length ≤ 48) (ht : getF (tmpW p) D = none) {n : Nat} {b : Bt} (hr : ¬ usedD D + b.length ≤ room) : anewW room D p n b = (7, D) := by
  have hx := append_full (room := room) (D := D) (d := b) (tmp_ok hp) (by omega)
  unfold anewW
  rw [remove_none ht]
  simp only [hx]
  rfl
/-- Open leaves no more than there was. -/
theorem used_go (hp : p.length ≤ 48) : ∀ (ns : List Nat) (nx : Option Nat) (D : Fls), DOk room D → getF (tmpW p) D = none → (∀ n ∈ ns, inR n) →
    usedD (goW room p nx ns D).2.1 ≤ usedD D ∧ (goW room p nx ns D).2.2.length ≤ ns.length
  | [], nx, D, _, _, _ => by rw [goW]; exact ⟨Nat.le_refl _, Nat.le_refl _⟩
  | n :: ns, nx, D, hD, ht, hn => by
    have hns : ∀ m ∈ ns, inR m := fun m hm => hn m (by simp [hm])
    rw [goW]
    by_cases h1 : nx ≠ none ∧ nx ≠ some n
    · rw [if_pos h1]
      obtain ⟨_, g2, _⟩ := delAll_ok hp (n :: ns) D hD hn
      exact ⟨g2, by simp⟩
    · rw [if_neg h1]
      simp only
      obtain ⟨s, hs⟩ : ∃ s, bytesOf (nameW p n) D = s := ⟨_, rfl⟩
      rw [hs]
      by_cases h2 : goodB (scanB s) < s.length
      · rw [if_pos h2]
        by_cases hr : usedD D + (s.take (goodB (scanB s))).length ≤ room
        · obtain ⟨a1, a2, _, _⟩ := anew_ok hD hp (hn n (by simp)) (s.take (goodB (scanB s))) hr
          have hu := used_anew hD hp (hn n (by simp)) (s.take (goodB (scanB s))) hr
          rw [hs] at hu
          have htl : (s.take (goodB (scanB s))).length ≤ s.length := by rw [List.length_take]; omega
          rw [if_pos a1]
          obtain ⟨_, g2, _⟩ := delAll_ok hp ns _ a2 hns
          exact ⟨by simp only; omega, by simp⟩
        · rw [anew_full hD hp ht hr, if_neg (show ¬ (7 : Int) = 0 by decide)]
          exact ⟨Nat.le_refl _, by simp⟩
      · rw [if_neg h2]
        obtain ⟨i1, i2⟩ := used_go hp ns (some (n + (scanB s).length)) D hD ht hns
        exact ⟨i1, by simp; omega⟩
theorem used_open (hD : DOk room D) (hp : p.length ≤ 48) : usedD (openW room D p).2.1 ≤ usedD D ∧ (openW room D p).2.2.length ≤ D.length := by
  have h1 := hD.remove (tmpW p)
  have hu := used_remove_le (m := tmpW p) hD
  obtain ⟨g1, g2⟩ := used_go hp (numsW (removeD D (tmpW p)).2 p) none _ h1 (by rw [getF_remove hD, if_pos rfl]) (fun n hn => nums_inR hn)
  refine ⟨Nat.le_trans g1 hu, Nat.le_trans g2 ?_⟩
  have hl : (removeD D (tmpW p)).2.length ≤ D.length := remove_len _ _
  refine Nat.le_trans ?_ hl
  unfold numsW
  refine Nat.le_trans (List.length_filter_le _ _) ?_
  rw [List.length_map]
  exact Nat.le_trans (List.length_filter_le _ _) (by rw [List.length_map]; exact Nat.le_refl _)
end
end Go.Proofs.YtdngjkjoahgelaaGreatDoor
