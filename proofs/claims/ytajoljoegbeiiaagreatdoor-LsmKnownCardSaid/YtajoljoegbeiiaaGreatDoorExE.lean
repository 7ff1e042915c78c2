/-
  The executor: append, brought together; copy.
-/
import Derived.Test.YtajoljoegbeiiaaGreatDoorExD
namespace Go.Proofs.YtajoljoegbeiiaaGreatDoor
set_option linter.all false
namespace Ex
open Go.RowKit
section
variable {P : Program} {m : Mz} {h : Hp} {nx : Nat} {w : World} {fr : Fm} {a : Act} {sz : Nat} {o : Oper} {r : Rs}
theorem run_append_none {t tx ty e : TypeId} {i : TypeInfo} (ht : P.underlying t = some (.slice e)) (hi : P.info? e = some i) {base : Option Addr} {sLen sCap : Nat} (hle : sLen ≤ sCap) {x : Value} {us : List Value} (hs : Src P i.size tx x 0 us w) :
    (Builtin.append_ #[t, tx] ty #[.slice base sLen sCap, x]).run P w = .ok (.slice base sLen sCap) w := by
  have hu : us = [] := List.eq_nil_of_length_eq_zero (by rw [hs.newsLen]; simp)
  subst hu
  have hc := hs.cells
  rcases hs.kind with ⟨e', hk⟩ | hk <;> cases base <;> simp [Builtin.append_, run_underlying ht, run_underlying hk, sizeOf, typeInfo, hi, hs.len, hle, hc, storeCells]
theorem run_append_room_st {t tx ty e : TypeId} {i : TypeInfo} (ht : P.underlying t = some (.slice e)) (hi : P.info? e = some i) {g off sLen sCap n : Nat} {x : Value} {us : List Value} (hs : Src P i.size tx x n us w) (hroom : sLen + n ≤ sCap)
    {w' : World} (hst : (storeCells ⟨g, off + sLen * i.size, none⟩ us).run P w = .ok () w') :
    (Builtin.append_ #[t, tx] ty #[.slice (some ⟨g, off, none⟩) sLen sCap, x]).run P w = .ok (.slice (some ⟨g, off, none⟩) (sLen + n) sCap) w' := by
  rcases hs.kind with ⟨e', hk⟩ | hk <;> simp [Builtin.append_, run_underlying ht, run_underlying hk, sizeOf, typeInfo, hi, hs.len, hroom, hs.cells, Addr.add_lit, hst]
/-- Cells stored into a row. -/
theorem row_put {g oo : Nat} {cs : Array Value} {e : TypeId} {fz : Nat × Nat} (hg : w.heap[g]? = some (.cells cs e fz)) {us : List Value} (hfz : FzOk fz cs.size oo) (hl : oo + us.length ≤ cs.size) (h1 : ∀ u ∈ us, u.oneCell' = true) :
    ∃ cs' : Array Value, (storeCells ⟨g, oo, none⟩ us).run P w = .ok () (w.setRow g cs') ∧ cs'.size = cs.size ∧ ∀ i, cs'[i]? = if i < oo then cs[i]? else if i < oo + us.length then us[i - oo]? else cs[i]? := by
  have hrun := run_storeCells_z P g oo e fz us 0 cs w hg (fun j h1 h2 => hfz j (by omega) h2) (by omega) h1
  simp only [Nat.add_zero] at hrun
  refine ⟨_, hrun, by simp; omega, fun i => ?_⟩
  have hcl : cs.toList.length = cs.size := Array.length_toList
  rw [List.getElem?_toArray, seg_get cs.toList us oo i (by omega)]
  simp only [Array.getElem?_toList]
/-- What the two arms of growing have in common: the younger version's cells. -/
theorem newer_here {cs : List AV} {us : List Value} (hv : VRL m cs us) {rows : Array Value} {sh : Nat} (hrow : ∀ (i : Nat) (u : Value), us[i]? = some u → rows[sh + i]? = some u) (i : Nat) (hi : i < cs.length) :
    ∃ u, rows[sh + i]? = some u ∧ VR m ((treeOf un cs 0 .nil).get un i) u := by
  obtain ⟨v, hv1⟩ : ∃ v, cs[i]? = some v := ⟨_, List.getElem?_eq_getElem hi⟩
  obtain ⟨u, hu, hvu⟩ := hv.get i v hv1
  refine ⟨u, hrow i u hu, ?_⟩
  rw [treeOf_get, if_pos (Nat.zero_le _), Nat.sub_zero, hv1]
  exact hvu
/-- Grown, and it may be that there was room. -/
theorem either_grow (hW : WR P m h nx w) {b : Nat} {k : Bk} (hb : h.get .dead b = .cells k) (hst : k.st = false) (hfx : k.fx = false) (p oo bnd : Nat) {e : TypeId} {z n : Nat} {cs : List AV} {us : List Value} (hv : VRL m cs us) (hlen : us.length = n * z) (hz : sizeT P e = some z)
    {zero : Array Value} (hzs : zero.size = z) {cap : Nat} (hcap : n ≤ cap) (w' : World) (hw' : w' = w.drew.alloc (.cells (us.toArray ++ Builtin.zeroCells zero (cap - n)) e)) :
    ∃ m', WR P m' (setBk (h.set .dead b (elder p k)) nx (newer e z n bnd oo b cs k)) (nx + 1) w' ∧ VR m' (.slice nx 0 n n false) (.slice (some ⟨w.heap.size, 0, none⟩) n cap) ∧
      Evo m h w m' (setBk (h.set .dead b (elder p k)) nx (newer e z n bnd oo b cs k)) w' := by
  subst hw'
  have hWd : WR P m h nx w.drew := hW.drew rfl
  obtain ⟨hE1, hE2⟩ := elder_ok hWd hb hst hfx p
  have hcl := hv.length
  have hle := upd_le (⟨w.heap.size, 0, cap - n⟩ : Cz) (hW.fresh nx (Nat.le_refl _))
  obtain ⟨h1, h2⟩ := hE1.alloc (.cells (us.toArray ++ Builtin.zeroCells zero (cap - n)) e) (.cells (newer e z n bnd oo b cs k)) ⟨w.heap.size, 0, cap - n⟩ rfl
    ⟨_, _, (0, 0), upd_at _ _ _, heap_alloc_new w.drew _, by
      show 0 + n * z + (cap - n) * P.cellsOf e ≤ _
      rw [cellsOf_eq hz, Array.size_append, zeroCells_size, hzs, List.size_toArray]; omega,
     fun i hi => newer_here (hv.mono hle) (fun i u hi => by
      have hlt := (List.getElem?_eq_some_iff.1 hi).1
      rw [Nat.zero_add, Array.getElem?_append_left (by simpa using hlt)]
      simpa using hi) i (by have hi : i < n * z := hi; omega), fun _ => fz_none _ _, (fun hc => by cases hc), (fun hc => by cases hc), (fun hc => by cases hc)⟩
  refine ⟨_, h1, ?_, ((Evo.drew (h := h) (m := m) (w := w) (w' := w.drew) rfl rfl rfl rfl).trans hE2).trans h2⟩
  have := VR.slice (m := upd m nx ⟨w.heap.size, 0, cap - n⟩) (b := nx) 0 n n false (upd_at m nx _)
  rw [show (if false = true then n else n + (⟨w.heap.size, 0, cap - n⟩ : Cz).ext) = cap by simp; omega] at this
  exact this
/-- There was room. -/
theorem either_room (hW : WR P m h nx w) {b : Nat} {k : Bk} {z0 : Cz} {cs0 : Array Value} {fz : Nat × Nat} (hb : h.get .dead b = .cells k) (hro : k.ro = false) (hst : k.st = false) (hfx : k.fx = false) (hB : BR P m w b k z0 cs0 fz)
    {z oo n n' c : Nat} (hz : sizeT P k.e = some z) (hoc : oo + c * z ≤ k.n) (hfzo : k.fz ≤ oo + n * z) (hbnd : k.bnd ≤ oo + n * z) (hn' : n' ≤ c + z0.ext) (hcn : c < n')
    {old news : List AV} {os us : List Value} (hvo : VRL m old os) (hvn : VRL m news us) (hol : os.length = n * z) (hul : n * z + us.length = n' * z) (hos : ∀ j u, os[j]? = some u → w.cell? ⟨z0.blk, z0.sh + oo + j, none⟩ = some u) (h1 : ∀ u ∈ us, u.oneCell' = true) :
    ∃ w' m', (storeCells ⟨z0.blk, z0.sh + oo + n * z, none⟩ us).run P w = .ok () w' ∧ WR P m' (setBk (h.set .dead b (elder (oo + n * z) k)) nx (newer k.e z n' (n * z) oo b (cat old news) k)) (nx + 1) w' ∧
      VR m' (.slice nx 0 n' n' false) (.slice (some ⟨z0.blk, z0.sh + oo, none⟩) n' (c + z0.ext)) ∧ Evo m h w m' (setBk (h.set .dead b (elder (oo + n * z) k)) nx (newer k.e z n' (n * z) oo b (cat old news) k)) w' := by
  have hsz := hB.sz
  rw [cellsOf_eq hz] at hsz
  have hcz : c * z + z0.ext * z = (c + z0.ext) * z := (Nat.add_mul _ _ _).symm
  have hnz : n' * z ≤ (c + z0.ext) * z := Nat.mul_le_mul_right _ hn'
  obtain ⟨cs', hrun, hsize, hget⟩ := row_put (P := P) hB.hp (us := us) (oo := z0.sh + oo + n * z) (fun j g1 g2 => hB.fr hst j (by omega) g2) (by omega) h1
  have hle := upd_le (⟨z0.blk, z0.sh + oo, c + z0.ext - n'⟩ : Cz) (hW.fresh nx (Nat.le_refl _))
  have hrow : ∀ (i : Nat) (u : Value), (os ++ us)[i]? = some u → cs'[z0.sh + oo + i]? = some u := fun i u hi => by
    rw [hget]
    by_cases h1 : i < n * z
    · rw [if_pos (by omega)]
      rw [List.getElem?_append_left (by omega)] at hi
      have := hos i u hi
      rw [hB.cell] at this; exact this
    · rw [if_neg (by omega)]
      rw [List.getElem?_append_right (by omega)] at hi
      have hlt := (List.getElem?_eq_some_iff.1 hi).1
      rw [if_pos (by omega), show z0.sh + oo + i - (z0.sh + oo + n * z) = i - os.length by omega]
      exact hi
  have hext : (c + z0.ext - n') * z = (c + z0.ext) * z - n' * z := Nat.sub_mul _ _ _
  have hlens : (old ++ news).length = n' * z := by
    have e1 := hvo.length; have e2 := hvn.length
    rw [List.length_append]; omega
  have hB' : BR P (upd m nx ⟨z0.blk, z0.sh + oo, c + z0.ext - n'⟩) (w.setRow z0.blk cs') nx (newer k.e z n' (n * z) oo b (cat old news) k) ⟨z0.blk, z0.sh + oo, c + z0.ext - n'⟩ cs' fz :=
    ⟨upd_at _ _ _, setRow_heap w z0.blk cs0 cs' k.e fz hB.hp, by
      show z0.sh + oo + n' * z + (c + z0.ext - n') * P.cellsOf k.e ≤ cs'.size
      rw [cellsOf_eq hz, hsize]; omega,
     fun i hi => by
      have hi : i < n' * z := hi
      have := newer_here (m := upd m nx ⟨z0.blk, z0.sh + oo, c + z0.ext - n'⟩) ((hvo.append hvn).mono hle) (rows := cs') (sh := z0.sh + oo) hrow i (by omega)
      show ∃ u, cs'[z0.sh + oo + i]? = some u ∧ VR _ ((treeOf un (cat old news) 0 .nil).get un i) u
      rw [cat_eq]; exact this,
     (fun _ j g1 g2 => hB.fr hst j (by have g1 : z0.sh + oo + (k.fz - oo) ≤ j := g1; omega) (by omega)), (fun hc => by cases hc), (fun hc => by cases hc), (fun hc => by cases hc)⟩
  obtain ⟨h3, h4⟩ := fork_ok hW hb hro hst hfx hB hsize (p := oo + n * z) (fun i hi => by rw [hget, if_pos (by omega)]) hbnd (kn := newer k.e z n' (n * z) oo b (cat old news) k) (zn := ⟨z0.blk, z0.sh + oo, c + z0.ext - n'⟩) rfl (by show _ ≤ z0.sh + oo + n * z; omega) rfl rfl hB'
  refine ⟨_, _, hrun, h3, ?_, h4⟩
  have := VR.slice (m := upd m nx ⟨z0.blk, z0.sh + oo, c + z0.ext - n'⟩) (b := nx) 0 n' n' false (upd_at m nx _)
  rw [show (if false = true then n' else n' + (⟨z0.blk, z0.sh + oo, c + z0.ext - n'⟩ : Cz).ext) = c + z0.ext by simp; omega] at this
  exact this
theorem cond_none {α : Type} {c : Bool} {x y : Option α} {v : α} (h : (bif c then x else y) = some v) : (c = true ∧ x = some v) ∨ (c = false ∧ y = some v) := by
  cases c with
  | true => exact .inl ⟨rfl, h⟩
  | false => exact .inr ⟨rfl, h⟩
theorem append_ok (hW : WR P m h nx w) {t u ty : TypeId} {s x : AV} {S X : Value} (hs : VR m s S) (hx : VR m x X) (hu : ((P.underlying u).map srcD).getD false = true) (hr : appendA P t s x h nx = some r) :
    ∃ v w' m', (Builtin.append_ #[t, u] ty #[S, X]).run P w = .ok v w' ∧ WR P m' r.h r.nx w' ∧ VR m' r.v v ∧ Evo m h w m' r.h w' := by
  obtain ⟨e, he, hr⟩ := bind_some hr
  obtain ⟨z, hz, hr⟩ := bind_some hr
  obtain ⟨n, hn, hr⟩ := bind_some hr
  obtain ⟨hc, hr⟩ := cond_some hr
  obtain ⟨hc1, hc2⟩ := Bool.and_eq_true_iff.1 hc
  have hn30 : n ≤ 1073741824 := Nat.le_of_ble_eq_true hc1
  obtain ⟨i, zv, hi, hzi, hz0, hzs, hzp, hb⟩ := elemOk_ok hz hc2
  obtain ⟨news, hnews, hr⟩ := bind_some hr
  obtain ⟨hone, hr⟩ := cond_some hr
  obtain ⟨f, hf, hr⟩ := bind_some hr
  obtain ⟨us, hvn, hsrc⟩ := src_ok hW hnews hn hx hone hu
  have ht := elemT_some he
  subst hzi
  have hul := hsrc.newsLen
  have fits : ∀ need old, old < need → need ≤ 1073741824 → Builtin.nextslicecap need old * i.bytes ≤ 281474976710656 := fun need old h1 h2 => growslice_fits h1 (by
    have : need * i.bytes ≤ 1073741824 * 65536 := Nat.mul_le_mul h2 hb
    omega)
  cases s with
  | nils =>
    cases hf
    cases hs
    rcases cond_none hr with ⟨h0, hr⟩ | ⟨h0, hr⟩
    · have h0 : n = 0 := Nat.eq_of_beq_eq_true h0
      subst h0
      cases hr
      exact ⟨_, w, m, run_append_none ht hi (Nat.le_refl _) hsrc, hW, .nils, Evo.refl m h w⟩
    · cases hr
      have h0 : n ≠ 0 := fun e => by rw [e] at h0; cases h0
      have hrun := run_append_grow_src (P := P) w t u ty e i zv ht hi hz0 none 0 0 [] (run_firstCells_none _ _ _ _ _) X n us hsrc (by omega) (by omega) (fits _ _ (by omega) (by omega))
      obtain ⟨m', g1, g2, g3⟩ := grown_ok hW hvn hul hz (zero := zv.cells) hzs (cap := grownCap w n 0 e) (grownCap_ge w n 0 e)
      simp only [Nat.zero_add, List.nil_append] at hrun
      exact ⟨_, _, m', hrun, g1, g2, g3⟩
  | slice b oo ln c ex =>
    obtain ⟨h30, hf⟩ := cond_some (show (bif Nat.ble (ln + n) 1073741824 then some (appSl e i.size n ⟨b, oo, ln, c, ex⟩ h nx) else none) = some f from hf)
    cases hf
    have h30 : ln + n ≤ 1073741824 := Nat.le_of_ble_eq_true h30
    obtain ⟨zz, hzz, hcase⟩ := hs.slice_inv
    rcases cond_none hr with ⟨h0, hr⟩ | ⟨h0, hr⟩
    · have h0 : ln + n ≤ c := Nat.le_of_ble_eq_true h0
      rcases cond_none hr with ⟨h1, hr⟩ | ⟨h1, hr⟩
      · have h1 : n = 0 := Nat.eq_of_beq_eq_true h1
        subst h1
        cases hr
        rcases hcase with rfl | ⟨g1, g2, g3, A, rfl⟩
        · exact ⟨_, w, m, run_append_none ht hi (by split <;> omega) hsrc, hW, hs, Evo.refl m h w⟩
        · subst g1 g2 g3
          exact ⟨_, w, m, run_append_none ht hi (Nat.le_refl _) hsrc, hW, hs, Evo.refl m h w⟩
      · have h1 : n ≠ 0 := fun e => by rw [e] at h1; cases h1
        obtain ⟨h', hst, rfl⟩ := map_some hr
        obtain ⟨z2, w', hz2, hrun, hW', hE⟩ := storeN_ok hW hst hvn
        rw [hzz] at hz2; cases hz2
        rcases hcase with rfl | ⟨g1, g2, g3, A, rfl⟩
        · rw [← Nat.add_assoc] at hrun
          exact ⟨_, w', m, run_append_room_st ht hi hsrc (by split <;> omega) hrun, hW', .slice _ _ _ _ hzz, hE⟩
        · omega
    · have h0 : ¬ ln + n ≤ c := fun hh => by rw [Nat.ble_eq_true_of_le hh] at h0; cases h0
      obtain ⟨old, hold, hr⟩ := bind_some hr
      obtain ⟨k, hk, hr⟩ := bind_some hr
      obtain ⟨os, hol, hvo, hfo, hco⟩ := news_ok (P := P) hW hold (show lenA (.slice b oo ln c ex) = some ln from rfl) (Nat.le_refl _) hs
      have hall := hvo.append hvn
      have hal : (os ++ us).length = (ln + n) * i.size := by rw [List.length_append, Nat.add_mul, hol, hul]
      obtain ⟨A, C, hS, hfo'⟩ : ∃ A C, S = .slice A ln C ∧ c ≤ C := by
        rcases hcase with rfl | ⟨g1, g2, g3, A, rfl⟩
        · exact ⟨_, _, rfl, by split <;> omega⟩
        · subst g1 g2; exact ⟨_, _, rfl, Nat.le_refl _⟩
      have grow : C < ln + n → (Builtin.append_ #[t, u] ty #[S, X]).run P w = .ok (.slice (some ⟨w.heap.size, 0, none⟩) (ln + n) (grownCap w (ln + n) C e)) (w.drew.alloc (.cells ((os ++ us).toArray ++ Builtin.zeroCells zv.cells (grownCap w (ln + n) C e - (ln + n))) e)) := fun hC => by
        rw [hS]
        exact run_append_grow_src (P := P) w t u ty e i zv ht hi hz0 A ln C os (by rw [← hS]; exact hfo w.drew rfl) X n us hsrc hC (by omega) (fits _ _ hC h30)
      rcases cond_none (show (bif ex || k.fx then some (grown e i.size (ln + n) (cat old news) h nx) else eitherBk e i.size ⟨b, oo, ln, c, ex⟩ (ln + n) (cat old news) h nx k) = some r from hr) with ⟨h2, hr⟩ | ⟨h2, hr⟩
      · cases hr
        obtain ⟨zb, csb, fzb, hB⟩ := hW.bk hk
        have hm := hB.hm
        rw [hzz] at hm; cases hm
        have hC : C = c := by
          rcases hcase with hh | ⟨g1, g2, g3, A', hh⟩
          · rw [hh] at hS; injection hS with _ _ hS
            rcases Bool.or_eq_true_iff.1 h2 with h2 | h2
            · rw [h2] at hS; exact hS.symm
            · have := hB.fx h2; rw [this] at hS; rw [← hS]; split <;> omega
          · rw [hh] at hS; injection hS with _ _ hS; omega
        obtain ⟨m', g1, g2, g3⟩ := grown_ok hW hall hal hz (zero := zv.cells) hzs (grownCap_ge w (ln + n) C e)
        refine ⟨_, _, m', grow (by omega), ?_, g2, ?_⟩
        · show WR P m' (newCells h nx (cat old news) _ e false) _ _; rw [cat_eq]; exact g1
        · show Evo _ _ _ m' (newCells h nx (cat old news) _ e false) _; rw [cat_eq]; exact g3
      · obtain ⟨hex, hfx⟩ := Bool.or_eq_false_iff.1 h2
        obtain ⟨hok, hr⟩ := cond_some hr
        cases hr
        unfold eitherOk at hok
        simp only [Bool.and_eq_true, Bool.not_eq_true'] at hok
        obtain ⟨⟨⟨⟨⟨q1, q2⟩, q3⟩, q4⟩, q5⟩, q6⟩ := hok
        have q3 : k.e = e := Nat.eq_of_beq_eq_true q3
        have q4 : oo + c * i.size ≤ k.n := Nat.le_of_ble_eq_true q4
        have q5 : k.fz ≤ oo + ln * i.size := Nat.le_of_ble_eq_true q5
        have q6 : k.bnd ≤ oo + ln * i.size := Nat.le_of_ble_eq_true q6
        subst q3
        by_cases hC : C < ln + n
        · obtain ⟨m', g1, g2, g3⟩ := either_grow hW (getBk_some hk) q2 hfx (oo + ln * i.size) oo (ln * i.size) hall hal hz (zero := zv.cells) hzs (grownCap_ge w (ln + n) C k.e) _ rfl
          refine ⟨_, _, m', grow hC, ?_, g2, ?_⟩
          · show WR P m' (setBk (h.set .dead b (elder (oo + ln * i.size) k)) nx (newer k.e i.size (ln + n) (ln * i.size) oo b (cat old news) k)) _ _; rw [cat_eq]; exact g1
          · show Evo _ _ _ m' (setBk (h.set .dead b (elder (oo + ln * i.size) k)) nx (newer k.e i.size (ln + n) (ln * i.size) oo b (cat old news) k)) _; rw [cat_eq]; exact g3
        · obtain ⟨zb, csb, fzb, hB⟩ := hW.bk hk
          have hm := hB.hm
          rw [hzz] at hm; cases hm
          rcases hcase with hh | ⟨g1, g2, g3, A', hh⟩
          · have hCe : C = c + zz.ext := by
              rw [hh] at hS; injection hS with _ _ hS; rw [hex] at hS; exact hS.symm
            obtain ⟨w', m', g1, g2, g3, g4⟩ := either_room hW (getBk_some hk) q1 q2 hfx hB hz q4 q5 q6 (n' := ln + n) (by omega) (by omega) hvo hvn hol (by rw [hul, Nat.add_mul]) (fun j u hj => hco b oo ln c ex rfl zz hzz j u hj) hsrc.one
            refine ⟨_, w', m', ?_, g2, g3, g4⟩
            rw [hh, hex]
            exact run_append_room_st ht hi hsrc (by simp; omega) g1
          · rw [hh] at hS; injection hS with _ _ hS; omega
  | _ => cases hf
end
end Ex
end Go.Proofs.YtajoljoegbeiiaaGreatDoor
