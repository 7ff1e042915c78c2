/-
  WalCuts in plain Lean: a log that is synced, dropped from, cut, and opened anew behind a crash.
-/
import Derived.Test.YtdngjkjoahgelaaGreatDoorWlN
import Derived.Test.YtdngjkjoahgelaaGreatDoorWlA
namespace Go.Proofs.YtdngjkjoahgelaaGreatDoor
set_option linter.all false
theorem rename_len (D : Fls) (n m : Bt) : (renameD D n m).2.length ≤ D.length + 1 := by
  unfold renameD
  repeat' split
  all_goals try (simp only; omega)
  have h1 := put_len ⟨m, ‹Fl›.bytes, ‹Fl›.synced⟩ (delF n D)
  have h2 : (delF n D).length ≤ D.length := List.length_filter_le _ _
  simp only at *
  omega
theorem sync_len' (D : Fls) (n : Bt) : (syncD D n).2.length ≤ D.length + 1 := by
  unfold syncD
  split
  · exact Nat.le_succ _
  · exact put_len _ _
theorem remove_len' (D : Fls) (n : Bt) : (removeD D n).2.length ≤ D.length := by
  unfold removeD
  split
  · exact Nat.le_refl _
  · exact List.length_filter_le _ _
theorem anew_len (room : Nat) (D : Fls) (p : Bt) (n : Nat) (b : Bt) : (anewW room D p n b).2.length ≤ D.length + 3 := by
  unfold anewW
  have h1 := remove_len' D (tmpW p)
  have h2 := appendD_len room (removeD D (tmpW p)).2 (tmpW p) b
  have h3 := sync_len' (appendD room (removeD D (tmpW p)).2 (tmpW p) b).2 (tmpW p)
  have h4 := rename_len (syncD (appendD room (removeD D (tmpW p)).2 (tmpW p) b).2 (tmpW p)).2 (tmpW p) (nameW p n)
  dsimp only
  split
  · omega
  · dsimp only; omega
theorem drop_len (p : Bt) (tn : Nat) : ∀ (F : List WF) (D : Fls), (dropW p tn F D).1.length ≤ D.length
  | [], _ => Nat.le_refl _
  | [f], _ => Nat.le_refl _
  | f :: g :: F, D => by
    rw [dropW]
    split
    · exact Nat.le_trans (drop_len p tn (g :: F) _) (remove_len' _ _)
    · exact Nat.le_refl _
theorem back_len (p : Bt) (fr : Nat) : ∀ (R : List WF) (D : Fls), (cutBack p fr R D).1.length ≤ D.length
  | [], _ => Nat.le_refl _
  | f :: R, D => by
    rw [cutBack]
    split
    · exact Nat.le_trans (back_len p fr R _) (remove_len' _ _)
    · exact Nat.le_refl _
theorem cut_len (room : Nat) (p : Bt) (D : Fls) (F : List WF) (fr : Nat) : (cutW room p D F fr).2.1.length ≤ D.length + 3 := by
  unfold cutW
  split
  · exact Nat.le_add_right _ _
  · split
    · exact Nat.le_add_right _ _
    · have h1 := back_len p fr F.reverse D
      split
      · rename_i D1 f R e
        rw [e] at h1
        have h2 := anew_len room D1 p f.first (framesB (f.recs.take (fr - f.first)))
        dsimp only at h1 ⊢
        split
        · dsimp only; omega
        · dsimp only; omega
      · rename_i D1 e
        rw [e] at h1
        dsimp only at h1 ⊢
        omega
/-- What Drop makes, and what Cut makes of it. -/
structure CutsD (ks : List Bt) (n tn : Nat) (D1 : Fls) (F1 : List WF) (first : Nat) : Prop where
  log : Log 1048576 [119] D1 F1
  sync : SyncTo [119] D1 F1
  firstE : firstW F1 = first
  nextE : nextW F1 = n + 1
  one : 1 ≤ first
  most : first ≤ max tn 1
  recs : recsW F1 = ks.drop (first - 1)
  used : usedD D1 ≤ 3240
  dlen : D1.length ≤ 30
structure CutsC (ks : List Bt) (D2 : Fls) (F2 : List WF) (first next : Nat) : Prop where
  op : openW 1048576 (crashD [] 0 D2) [119] = (0, crashD [] 0 D2, F2)
  firstE : firstW F2 = first
  nextE : nextW F2 = next
  used : usedD D2 ≤ 6480
  dlen : (crashD [] 0 D2).length ≤ 33
  dlen0 : D2.length ≤ 33
  here : ∀ i, first ≤ i → i < next → ∃ r, ks[i - 1]? = some r ∧ getW F2 i = some r
  gone : ∀ i, ¬ (first ≤ i ∧ i < next) → getW F2 i = none
theorem LastS.dropped {ks : List Bt} {k n : Nat} {D : Fls} {F : List WF} (h : LastS ks k n D F) (hn : n = ks.length) (h30 : n ≤ 30) (tn : Nat) :
    ∃ D1 F1 first, dropW [119] tn F (syncW D [119] F) = (D1, F1) ∧ CutsD ks n tn D1 F1 first := by
  obtain ⟨s1, _, s3, s4⟩ := h.log.sync
  have hs := s4 h.kept.old
  obtain ⟨D1, F1, e, l1, l2, l3, l4, l5, l6, l7, l8⟩ := s1.drop' tn
  have hnx := h.next (by omega)
  have hrt : recsW F = ks := by rw [h.recs, List.take_of_length_le (by omega)]
  have hu := h.used
  have hdl := drop_len [119] tn F (syncW D [119] F)
  rw [e, syncW_len h.log.ok.srt] at hdl
  simp only at hdl
  have hd := h.dlen
  rw [h.first] at l5 l6 l7
  exact ⟨D1, F1, firstW F1, e, l1, l2 hs, rfl, by omega, by omega, l6, by rw [l7, hrt], by omega, by omega⟩
theorem recs_len {F : List WF} (h : chainW none F) : (recsW F).length = nextW F - firstW F := by have := next_all h; omega
theorem CutsD.end {ks : List Bt} {n tn first : Nat} {D1 D2 : Fls} {F1 F2 : List WF} (h : CutsD ks n tn D1 F1 first) (hl : Log 1048576 [119] D2 F2) (hs : SyncTo [119] D2 F2) (hf : firstW F2 = first) {m : Nat} (hr : recsW F2 = (recsW F1).take m) (hu : usedD D2 ≤ 6480) (hd : D2.length ≤ 33) :
    CutsC ks D2 F2 first (nextW F2) := by
  obtain ⟨c1, c2⟩ := hl.crash_all hs []
  have hlen := recs_len hl.chain
  have hge := next_all hl.chain
  have one := h.one
  refine ⟨c2, hf, rfl, hu, by rw [crash_len]; exact hd, hd, fun i h1 h2 => ?_, fun i hi => ?_⟩
  · have hlt : i - first < (recsW F2).length := by omega
    obtain ⟨r, hk⟩ : ∃ r, (recsW F2)[i - first]? = some r := ⟨_, List.getElem?_eq_getElem hlt⟩
    refine ⟨r, ?_, ?_⟩
    · have hk2 := hk
      rw [hr] at hk2
      have hm : i - first < m := by rw [hr, List.length_take] at hlt; omega
      rw [List.getElem?_take, if_pos hm, h.recs, List.getElem?_drop] at hk2
      rw [← hk2]; congr 1; omega
    · rw [get_chain hl.chain, hf, if_pos (by omega), hk]
  · rw [get_chain hl.chain, hf, if_neg (by omega)]
theorem CutsD.cut {ks : List Bt} {n tn first : Nat} {D1 : Fls} {F1 : List WF} (h : CutsD ks n tn D1 F1 first) (fr : Nat) :
    ∃ e D2 F2 next, cutW 1048576 [119] D1 F1 fr = (e, D2, F2) ∧ CutsC ks D2 F2 first next ∧ ((fr < first ∧ e = 2 ∧ next = n + 1) ∨ (first ≤ fr ∧ e = 0 ∧ next = min (n + 1) fr)) := by
  have hu := h.used
  have hd := h.dlen
  have hnx := h.nextE
  by_cases h1 : fr < first
  · refine ⟨2, D1, F1, nextW F1, by rw [cutW, if_pos (by rw [h.firstE]; exact h1)], ?_, .inl ⟨h1, rfl, hnx⟩⟩
    exact h.end h.log h.sync h.firstE (m := (recsW F1).length) (by rw [List.take_length]) (by omega) (by omega)
  · by_cases h2 : nextW F1 ≤ fr
    · refine ⟨0, D1, F1, nextW F1, by rw [cutW, if_neg (by rw [h.firstE]; exact h1), if_pos h2], ?_, .inr ⟨by omega, rfl, by omega⟩⟩
      exact h.end h.log h.sync h.firstE (m := (recsW F1).length) (by rw [List.take_length]) (by omega) (by omega)
    · obtain ⟨D2, F2, e, l1, l2, l3, l4, l5, l6, l7⟩ := h.log.cut fr (by rw [h.firstE]; omega) (by omega) (by omega)
      have hc := cut_len 1048576 [119] D1 F1 fr
      rw [e] at hc
      simp only at hc
      refine ⟨0, D2, F2, nextW F2, e, ?_, .inr ⟨by omega, rfl, by omega⟩⟩
      exact h.end l1 (l2 h.sync) (by rw [l3, h.firstE]) l4 (by omega) (by omega)
end Go.Proofs.YtdngjkjoahgelaaGreatDoor
