/-
  WalPlays: the document's log (acreageref07): Append (printed by wip/gen/rh5.py).
-/
import Derived.Test.YtdngjkjoahgelaaGreatDoorRh4
import Derived.Deep.Cut
namespace Go.Proofs.YtdngjkjoahgelaaGreatDoor
set_option linter.all false
set_option maxRecDepth 100000
set_option maxHeartbeats 4000000
open Go.RowKit
def appQ (room : Nat) (most : Int) (p : Bt) (D : Fls) (r : Bt) : Int × Fls :=
  if 1048576 < r.length then (3, D)
  else match (numsW D p).getLast? with
    | none => appendD room D (nameW p 1) (frameB r)
    | some x =>
      if ((bytesOf (nameW p x) D).length : Int) < most then appendD room D (nameW p x) (frameB r)
      else if 1000000000000000 < nextQ D p then (7, D)
      else appendD room (syncD D (nameW p x)).2 (nameW p (nextQ D p)) (frameB r)
theorem nextQ_lt {D : Fls} (h : QD D) (p : Bt) : 1 ≤ nextQ D p ∧ nextQ D p ≤ 1000000000000000 + 1099511627776 := by
  unfold nextQ
  cases hg : (numsW D p).getLast? with
  | none => simp
  | some l =>
    have h1 := nums_inR (List.mem_of_getLast? hg)
    have h2 := recsQ_len h p l
    have := h1.1; have := h1.2
    simp only; omega
section
variable {B w w' : World} {L : List HP} {room : Nat} {most : Int} {D : Fls} {v : Value} {p : Bt}
theorem pqAppendW (r : Bt) (hr : r.length ≤ 1099511627776) (hq : qR w v D) (hD : DOk room D) (hl : D.length ≤ 999990) (hu : usedD D ≤ 1000000000000) (hp : p.length ≤ 48) (hm : -9223372036854775808 ≤ most ∧ most ≤ 9223372036854775807) :
    Calls Tryz.prog 25 #[wval (room : Int) v p most, .string (bA r)] w fun y w' => ∃ v', y = .returned (.tuple #[wval (room : Int) v' p most, .int .i64 (appQ room most p D r).1]) ∧ qNew w w' v v' D (appQ room most p D r).2 := by
  obtain ⟨a, c, rfl⟩ := hq.len
  have hQ : QD D := QD.of hD (by omega) (by omega)
  obtain ⟨bx, hbx⟩ : ∃ bx, w.heap.size = bx := ⟨_, rfl⟩
  have h1 := ((((Sat.start w).alloc' (.cells #[.int .i64 (room : Int), .slice a D.length c, .string (bA p), .int .i64 most] 58) (n := bx) hbx.symm).alloc' (.cells #[.int .i64 0, .slice none 0 0, .string ⟨#[]⟩, .int .i64 0] 58) (n := bx + 1) (by simp [hbx])).src_in (.slice a D.length c) D)
  have hzp : (bA p).size = p.length := bA_size p
  have p1 : (p.length : Int) ≤ 48 := by omega
  have Hq := Lib.hid hq
  by_cases hrl : 1048576 < r.length
  · have Hres := Lib.hid (show appQ room most p D r = (3, D) by rw [appQ, if_pos hrl])
    have cF := fun (w3 : World) => pqFrame_long (w := w3) r hrl (by omega)
    clear hrl hr hD hQ hl hu hm hq
    go_enter Tryz.func25, Tryz.ntmps25
    go_wp2_with (go_at_call 61; refine (cF _).mono ?_; rintro y w2 ⟨rfl, rfl⟩)
    have h2 := ((Sat.start w).alloc' (.cells #[.int .i64 (room : Int), .slice a D.length c, .string (bA p), .int .i64 most] 58) (n := bx) hbx.symm).alloc' (.cells #[.int .i64 (room : Int), .slice a D.length c, .string (bA p), .int .i64 most] 58) (n := bx + 1) (by simp [hbx])
    have k0 := h2.pt_cell 0
    have k1 := h2.pt_cell 1
    have k2 := h2.pt_cell 2
    have k3 := h2.pt_cell 3
    simp only [List.setIfInBounds_toArray, List.set_cons_zero, List.set_cons_succ, List.getElem?_toArray, List.getElem?_cons_zero, List.getElem?_cons_succ] at k0 k1 k2 k3
    refine bodyPost_ret (v := .tuple #[wval (room : Int) (.slice a D.length c) p most, .int .i64 3]) (by simp [results, Tryz.results25, go_sem, k0, k1, k2, k3]) rfl ?_
    rw [Hres.out]
    exact ⟨_, rfl, .inr ⟨rfl, rfl, h2.below⟩⟩
  · have cF := fun (w3 : World) => pqFrame (w := w3) r (by omega)
    obtain ⟨fr, hfr⟩ : ∃ fr, frameB r = fr := ⟨_, rfl⟩
    have hfl : fr.length ≤ 1048584 := by rw [← hfr, frame_len]; omega
    have hap : appQ room most p D r = match (numsW D p).getLast? with
        | none => appendD room D (nameW p 1) fr
        | some x =>
          if ((bytesOf (nameW p x) D).length : Int) < most then appendD room D (nameW p x) fr
          else if 1000000000000000 < nextQ D p then (7, D)
          else appendD room (syncD D (nameW p x)).2 (nameW p (nextQ D p)) fr := by rw [← hfr, appQ, if_neg hrl]
    rw [hfr] at cF
    obtain ⟨l, hl2⟩ : ∃ l, numsW D p = l := ⟨_, rfl⟩
    have hin : ∀ n ∈ l, inR n := fun n h => nums_inR (D := D) (p := p) (by rw [hl2]; exact h)
    have hnl := nums_len hQ p
    have cFi := fun (w3 : World) (h3 : qR w3 (.slice a D.length c) D) => pqFiles (w := w3) (room := (room : Int)) (most := most) (p := p) h3 hQ.len (by omega) hQ.names
    have cNx := fun (w3 : World) (h3 : qR w3 (.slice a D.length c) D) => pqNext (w := w3) (room := (room : Int)) (most := most) (p := p) h3 hQ (by omega)
    obtain ⟨nx, hnx⟩ : ∃ nx, nextQ D p = nx := ⟨_, rfl⟩
    have hnxl := nextQ_lt hQ p
    rw [hnx] at cNx hnxl hap
    rw [hl2] at cFi hnl hap
    have cNn := fun (w3 : World) => pqName (w := w3) p nx (by omega) (by omega)
    have hnx1 : l = [] → nx = 1 := fun h => by rw [← hnx, nextQ, hl2, h]; rfl
    have nx1 : (nx : Int) ≤ 1001099511627776 := by omega
    have hS : ∀ w' (L' : List HP), Sat w (pt bx (.cells #[.int .i64 (room : Int), .slice a D.length c, .string (bA p), .int .i64 most] 58) :: L') w' → w'.cell? ⟨bx, 0, none⟩ = some (.int .i64 (room : Int)) ∧ w'.cell? ⟨bx, 1, none⟩ = some (.slice a D.length c) ∧ w'.cell? ⟨bx, 2, none⟩ = some (.string (bA p)) ∧ w'.cell? ⟨bx, 3, none⟩ = some (.int .i64 most) := fun w' L' h => ⟨h.pt_cell 0, h.pt_cell 1, h.pt_cell 2, h.pt_cell 3⟩
    have Hap := Lib.hid hap
    have Hfr := Lib.hid hfr
    have Hin := Lib.hid hin
    have HD := Lib.hid hD
    have HQ := Lib.hid hQ
    have Hl := Lib.hid hl
    have Hu := Lib.hid hu
    have Hfl := Lib.hid hfl
    have Hx1 := Lib.hid hnx1
    have Hnx := Lib.hid hnxl
    have Hrl := Lib.hid hrl
    clear hap hfr hin hD hQ hl hu hfl hnx hl2 hrl hr hq hnx1
    go_enter Tryz.func25, Tryz.ntmps25
    go_wp2_with fail
    refine (cF _).mono ?_
    rintro y w2 ⟨rfl, hb2⟩
    have h2 := h1.of_below hb2
    clear h1 hb2 cF
    obtain ⟨x0, x1, x2, x3⟩ := hS _ _ h2.p2
    go_wp2_with fail
    refine (cFi _ (h2.src_R Hq.out)).mono ?_
    rintro y w3 ⟨lv, rfl, hs3⟩
    have h3 := h2.over hs3
    clear h2 hs3 cFi x0 x1 x2 x3
    have h3d := h3.drew
    have h0 := hS _ _ h3d.p3
    go_wp2_with fail
    go_region_held3 (fun w' => w'.cell? ⟨bx, 0, none⟩ = some (.int .i64 (room : Int)) ∧ w'.cell? ⟨bx, 1, none⟩ = some (.slice a D.length c) ∧ w'.cell? ⟨bx, 2, none⟩ = some (.string (bA p)) ∧ w'.cell? ⟨bx, 3, none⟩ = some (.int .i64 most))
      (first | exact h0 | exact hS _ _ h5.p3 | exact hS _ _ h4.p3)
      (first
        | (go_at_call 32; refine (cNx _ (h3d.swap.src_R Hq.out)).mono ?_; rintro y w4 ⟨rfl, hb4⟩; have h4 := h3d.of_below hb4)
        | (go_at_call 54; refine (cNn _).mono ?_; rintro y w5 ⟨rfl, hb5⟩; have h5 := h4.of_below hb5))
    have Hlen : Hid (l.length = l.length) := Lib.hid rfl
    obtain ⟨la, lc, rfl, _⟩ := h5.row_reads
    clear h3 h3d h0 h4
    by_cases hnil : l = []
    · subst hnil
      obtain rfl : nx = 1 := Hx1.out rfl
      obtain ⟨x0, x1, x2, x3⟩ := hS _ _ h5.p3
      obtain ⟨nm, hnm⟩ : ∃ nm, nameW p 1 = nm := ⟨_, rfl⟩
      have hap : appQ room most p D r = appendD room D (nameW p 1) fr := Hap.out
      rw [hnm] at hap cNn
      obtain ⟨e2, D2, hD2⟩ : ∃ e2 D2, appendD room D nm fr = (e2, D2) := ⟨_, _, rfl⟩
      rw [hD2] at hap
      have Hres := Lib.hid hap
      have ea : e2 ≠ 0 → D2 = D := fun h => by have := q_append_err (room := room) (D := D) (n := nm) (d := fr); rw [hD2] at this; exact this h
      have hnml : nm.length ≤ 1000000 := by rw [← hnm, name_len ⟨by omega, by omega⟩]; omega
      clear hap
      rw [hnm]
      clear hnm
      go_wp2_with (go_at_call 32; refine (cNx _ (h5.swap.src_R Hq.out)).mono ?_; rintro y wX ⟨rfl, hbX⟩; have hX := (h5.of_below hbX).drop.p2.swap; clear x0 x1 x2 x3; obtain ⟨x0, x1, x2, x3⟩ := hS _ _ hX.swap)
      have cA := pqAppend nm fr (hX.src_R Hq.out) HD.out (by have := Hl.out; omega) (by have := Hu.out; omega) hnml (by have := Hfl.out; omega)
      simp only [hD2] at cA
      clear x0 x1 x2 x3 hD2 hnml
      refine cA.mono ?_
      rintro y w4 ⟨v4, rfl, ho4⟩
      try simp only at ho4
      by_cases he : e2 = 0
      · subst he
        have h4 := hX.src_new (ho4.new (D := D) ea)
        clear ho4 cA ea
        obtain ⟨a4, c4, rfl⟩ := (h4.src_R Hq.out).len
        go_upto_region 20 with (fail)
        have h8 := h4.alloc' (.cells #[.int .i64 (room : Int), .slice a4 D2.length c4] 54) (n := w4.heap.size) rfl
        generalize w4.alloc (.cells #[.int .i64 (room : Int), .slice a4 D2.length c4] 54) = w8 at h8 ⊢
        generalize w4.heap.size = b9 at h8 ⊢
        clear h4
        have y0 := h8.pt_cell 0
        have y1 := h8.pt_cell 1
        simp only [List.getElem?_toArray, List.getElem?_cons_zero, List.getElem?_cons_succ] at y0 y1
        have x0 := h8.p2.pt_cell 0
        have x1 := h8.p2.pt_cell 1
        have x2 := h8.p2.pt_cell 2
        have x3 := h8.p2.pt_cell 3
        have f0 := h8.p2.pt_free 0
        have f1 := h8.p2.pt_free 1
        have b1 := h8.p2.pt_lt
        have z0 := h8.p3.pt_cell 0
        have z1 := h8.p3.pt_cell 1
        have z2 := h8.p3.pt_cell 2
        have z3 := h8.p3.pt_cell 3
        have g0 := h8.p3.pt_free 0
        have g1 := h8.p3.pt_free 1
        have g2 := h8.p3.pt_free 2
        have g3 := h8.p3.pt_free 3
        have b2 := h8.p3.pt_lt
        simp only [List.getElem?_toArray, List.getElem?_cons_zero, List.getElem?_cons_succ] at x0 x1 x2 x3 z0 z1 z2 z3
        go_wp2_with fail
        have h5 := (h8.p2.set (j := 0) (.int .i64 (room : Int))).set (j := 1) (.slice a4 D2.length c4)
        have h7 := (((h5.p3.set (j := 0) (.int .i64 (room : Int))).set (j := 1) (.slice a4 D2.length c4)).set (j := 2) (.string (bA p))).set (j := 3) (.int .i64 most)
        generalize World.setCell (World.setCell (World.setCell (World.setCell (World.setCell (World.setCell _ _ _) _ _) _ _) _ _) _ _) _ _ = wz at h7 ⊢
        have k0 := h7.pt_cell 0
        have k1 := h7.pt_cell 1
        have k2 := h7.pt_cell 2
        have k3 := h7.pt_cell 3
        simp only [List.setIfInBounds_toArray, List.set_cons_zero, List.set_cons_succ, List.getElem?_toArray, List.getElem?_cons_zero, List.getElem?_cons_succ] at k0 k1 k2 k3
        refine bodyPost_ret (v := .tuple #[wval (room : Int) (.slice a4 D2.length c4) p most, .int .i64 0]) (by simp [results, Tryz.results25, go_sem, k0, k1, k2, k3]) rfl ?_
        rw [Hres.out]
        exact ⟨_, rfl, h7.drop.drop.drop.src_out⟩
      · obtain ⟨rfl, rfl, hb4⟩ : v4 = (.slice a D.length c) ∧ D = D2 ∧ Below wX.heap.size wX w4 := by
          rcases ho4 with ⟨h, _⟩ | ⟨_, h, h'⟩
          · exact absurd h he
          · exact ⟨h, (ea he).symm, h'⟩
        have h4 := hX.of_below hb4
        clear ho4 cA ea
        have hne : (e2 == 0) = false := by simpa using he
        have hne' : (e2 != 0) = true := by simpa using he
        go_upto_region 19 with (fail)
        have h8 := h4.alloc' (.cells #[.int .i64 (room : Int), (.slice a D.length c)] 54) (n := w4.heap.size) rfl
        generalize w4.alloc (.cells #[.int .i64 (room : Int), (.slice a D.length c)] 54) = w8 at h8 ⊢
        generalize w4.heap.size = b9 at h8 ⊢
        clear h4
        have x0 := h8.p2.pt_cell 0
        have x1 := h8.p2.pt_cell 1
        have x2 := h8.p2.pt_cell 2
        have x3 := h8.p2.pt_cell 3
        have f0 := h8.p2.pt_free 0
        have f1 := h8.p2.pt_free 1
        have b1 := h8.p2.pt_lt
        have z0 := h8.p3.pt_cell 0
        have z1 := h8.p3.pt_cell 1
        have z2 := h8.p3.pt_cell 2
        have z3 := h8.p3.pt_cell 3
        have g0 := h8.p3.pt_free 0
        have g1 := h8.p3.pt_free 1
        have g2 := h8.p3.pt_free 2
        have g3 := h8.p3.pt_free 3
        have b2 := h8.p3.pt_lt
        simp only [List.getElem?_toArray, List.getElem?_cons_zero, List.getElem?_cons_succ] at x0 x1 x2 x3 z0 z1 z2 z3
        go_wp2_with fail
        have h7 := (((h8.p3.set (j := 0) (.int .i64 (room : Int))).set (j := 1) (.slice a D.length c)).set (j := 2) (.string (bA p))).set (j := 3) (.int .i64 most)
        generalize World.setCell (World.setCell (World.setCell (World.setCell _ _ _) _ _) _ _) _ _ = wz at h7 ⊢
        have k0 := h7.pt_cell 0
        have k1 := h7.pt_cell 1
        have k2 := h7.pt_cell 2
        have k3 := h7.pt_cell 3
        simp only [List.setIfInBounds_toArray, List.set_cons_zero, List.set_cons_succ, List.getElem?_toArray, List.getElem?_cons_zero, List.getElem?_cons_succ] at k0 k1 k2 k3
        refine bodyPost_ret (v := .tuple #[wval (room : Int) (.slice a D.length c) p most, .int .i64 e2]) (by simp [results, Tryz.results25, go_sem, k0, k1, k2, k3]) rfl ?_
        rw [Hres.out]
        exact ⟨_, rfl, h7.drop.drop.swap.drop.src_out⟩
    · obtain ⟨n, hn⟩ : ∃ n, l.length = n + 1 := ⟨l.length - 1, by have := List.length_pos_iff.2 hnil; omega⟩
      obtain ⟨x, hx⟩ : ∃ x, l[n]? = some x := ⟨_, List.getElem?_eq_getElem (by omega)⟩
      have hlast : l.getLast? = some x := by rw [List.getLast?_eq_getElem?, hn]; exact hx
      have hxr := Hin.out x (List.mem_of_getElem? hx)
      have hap : appQ room most p D r = if ((bytesOf (nameW p x) D).length : Int) < most then appendD room D (nameW p x) fr
          else if 1000000000000000 < nx then (7, D)
          else appendD room (syncD D (nameW p x)).2 (nameW p nx) fr := by have := Hap.out; rw [hlast] at this; exact this
      obtain ⟨g, off, e, _⟩ := h5.row_cell n (by omega)
      cases e
      obtain ⟨nm, hnm⟩ : ∃ nm, nameW p x = nm := ⟨_, rfl⟩
      obtain ⟨nn, hnn⟩ : ∃ nn, nameW p nx = nn := ⟨_, rfl⟩
      have cN1 := fun (w3 : World) => pqName (w := w3) p x (by have := hxr.2; omega) (by omega)
      have cRd := fun (w3 : World) (h3 : qR w3 (.slice a D.length c) D) => pqRead (w := w3) (room := (room : Int)) nm h3 HD.out.srt (by have := Hl.out; omega)
      have cS := fun (w3 : World) (v3 : Value) (h3 : qR w3 v3 D) => pqSync (room := (room : Int)) (w := w3) (v := v3) nm h3 HD.out.srt (by have := Hl.out; omega)
      have hnml : nm.length = p.length + 16 := by rw [← hnm, name_len hxr]
      have hnnl : nn.length ≤ 1000000 := by
        rw [← hnn, nameW, List.length_append, pad16_len (by omega)]; omega
      have hnm0 : nm ≠ [] := fun h => by rw [h] at hnml; simp at hnml
      rw [hnm, hnn] at hap
      rw [hnm] at cN1
      rw [hnn]
      obtain ⟨hv, hhv⟩ : ∃ hv, bytesOf nm D = hv := ⟨_, rfl⟩
      have hvl := HQ.out.bytesOf nm
      obtain ⟨er, her⟩ : ∃ er, (readD D nm).2 = er := ⟨_, rfl⟩
      rw [hhv] at hap hvl
      simp only [readD_bytes, hhv, her] at cRd
      have hzv : (bA hv).size = hv.length := bA_size hv
      have hv1 : (hv.length : Int) ≤ 1099511627776 := by omega
      have hS2 : ∀ (w' : World) (L' : List HP), Sat w (row 35 1 (.slice (some ⟨g, off, none⟩) l.length lc) l.length (u64s l) :: qsrc (.slice a D.length c) D (.slice a D.length c) D :: pt (bx + 1) (.cells #[.int .i64 0, .slice none 0 0, .string ⟨#[]⟩, .int .i64 0] 58) :: pt bx (.cells #[.int .i64 (room : Int), .slice a D.length c, .string (bA p), .int .i64 most] 58) :: L') w' → w'.cell? ⟨g, off + n, none⟩ = some (.int .u64 (x : Int)) ∧ w'.cell? ⟨bx, 0, none⟩ = some (.int .i64 (room : Int)) ∧ w'.cell? ⟨bx, 1, none⟩ = some (.slice a D.length c) ∧ w'.cell? ⟨bx, 2, none⟩ = some (.string (bA p)) ∧ w'.cell? ⟨bx, 3, none⟩ = some (.int .i64 most) := fun w' L' h => by
        obtain ⟨g', off', e, c1, _⟩ := h.row_cell n (by omega)
        cases e
        exact ⟨by rw [c1]; exact u64s_get hx, h.p3.pt_cell 0, h.p3.pt_cell 1, h.p3.pt_cell 2, h.p3.pt_cell 3⟩
      rw [hn] at hnl h5 hS2 ⊢
      have n1 : (n : Int) ≤ 1000000 := by omega
      have j1 : IntKind.i64.wrap ((n : Int) + 1 - 1) = (n : Int) := by rw [i64_id2 (by omega) (by omega)]; omega
      have j2 : (n : Int) < (n : Int) + 1 := by omega
      have j3 : (n : Int) + 1 - 1 = (n : Int) := by omega
      have j4 : IntKind.i64.wrap (n : Int) = (n : Int) := i64_id2 (by omega) (by omega)
      have h5d := h5.drew
      have h0 := hS2 _ _ h5d
      have Hap2 := Lib.hid hap
      have Hnml := Lib.hid hnml
      have q1 : (nm == []) = false := by simpa using hnm0
      have q2 : (nm != []) = true := by simpa using hnm0
      clear hap hnml hhv her hnm hnn hlast hx hn hnil Hx1 hnm0
      go_wp2_with fail
      go_region_held3 (fun w' => w'.cell? ⟨g, off + n, none⟩ = some (.int .u64 (x : Int)) ∧ w'.cell? ⟨bx, 0, none⟩ = some (.int .i64 (room : Int)) ∧ w'.cell? ⟨bx, 1, none⟩ = some (.slice a D.length c) ∧ w'.cell? ⟨bx, 2, none⟩ = some (.string (bA p)) ∧ w'.cell? ⟨bx, 3, none⟩ = some (.int .i64 most))
        (first | exact h0 | exact hS2 _ _ h6)
        (first | (go_at_call 54; refine (cN1 _).mono ?_; rintro y w6 ⟨rfl, hb6⟩; have h6 := h5d.of_below hb6))
      obtain ⟨x9, x0, x1, x2, x3⟩ := hS2 _ _ h6
      go_wp2_with fail
      refine (cRd _ (h6.swap.src_R Hq.out)).mono ?_
      rintro y w7 ⟨rfl, hb7⟩
      have h7 := (h6.of_below hb7).drop.p2.swap
      clear x9 x0 x1 x2 x3 h0 h5 h5d h6 hS2
      obtain ⟨x0, x1, x2, x3⟩ := hS _ _ h7.swap
      by_cases hlt : (hv.length : Int) < most
      · have hres := Hap2.out
        rw [if_pos hlt] at hres
        obtain ⟨e2, D2, hD2⟩ : ∃ e2 D2, appendD room D nm fr = (e2, D2) := ⟨_, _, rfl⟩
        rw [hD2] at hres
        have Hres := Lib.hid hres
        have ea : e2 ≠ 0 → D2 = D := fun h => by have := q_append_err (room := room) (D := D) (n := nm) (d := fr); rw [hD2] at this; exact this h
        have hX := h7
        generalize hwX : w7 = wX at *
        have cA := pqAppend nm fr (hX.src_R Hq.out) HD.out (by have := Hl.out; omega) (by have := Hu.out; omega) (by have := Hnml.out; omega) (by have := Hfl.out; omega)
        simp only [hD2] at cA
        clear hD2 hres h7
        go_wp2_with fail
        refine cA.mono ?_
        rintro y w4 ⟨v4, rfl, ho4⟩
        try simp only at ho4
        by_cases he : e2 = 0
        · subst he
          have h4 := hX.src_new (ho4.new (D := D) ea)
          clear ho4 cA ea
          obtain ⟨a4, c4, rfl⟩ := (h4.src_R Hq.out).len
          go_upto_region 20 with (fail)
          have h8 := h4.alloc' (.cells #[.int .i64 (room : Int), .slice a4 D2.length c4] 54) (n := w4.heap.size) rfl
          generalize w4.alloc (.cells #[.int .i64 (room : Int), .slice a4 D2.length c4] 54) = w8 at h8 ⊢
          generalize w4.heap.size = b9 at h8 ⊢
          clear h4
          have y0 := h8.pt_cell 0
          have y1 := h8.pt_cell 1
          simp only [List.getElem?_toArray, List.getElem?_cons_zero, List.getElem?_cons_succ] at y0 y1
          have x0 := h8.p2.pt_cell 0
          have x1 := h8.p2.pt_cell 1
          have x2 := h8.p2.pt_cell 2
          have x3 := h8.p2.pt_cell 3
          have f0 := h8.p2.pt_free 0
          have f1 := h8.p2.pt_free 1
          have b1 := h8.p2.pt_lt
          have z0 := h8.p3.pt_cell 0
          have z1 := h8.p3.pt_cell 1
          have z2 := h8.p3.pt_cell 2
          have z3 := h8.p3.pt_cell 3
          have g0 := h8.p3.pt_free 0
          have g1 := h8.p3.pt_free 1
          have g2 := h8.p3.pt_free 2
          have g3 := h8.p3.pt_free 3
          have b2 := h8.p3.pt_lt
          simp only [List.getElem?_toArray, List.getElem?_cons_zero, List.getElem?_cons_succ] at x0 x1 x2 x3 z0 z1 z2 z3
          go_wp2_with fail
          have h5 := (h8.p2.set (j := 0) (.int .i64 (room : Int))).set (j := 1) (.slice a4 D2.length c4)
          have h7 := (((h5.p3.set (j := 0) (.int .i64 (room : Int))).set (j := 1) (.slice a4 D2.length c4)).set (j := 2) (.string (bA p))).set (j := 3) (.int .i64 most)
          generalize World.setCell (World.setCell (World.setCell (World.setCell (World.setCell (World.setCell _ _ _) _ _) _ _) _ _) _ _) _ _ = wz at h7 ⊢
          have k0 := h7.pt_cell 0
          have k1 := h7.pt_cell 1
          have k2 := h7.pt_cell 2
          have k3 := h7.pt_cell 3
          simp only [List.setIfInBounds_toArray, List.set_cons_zero, List.set_cons_succ, List.getElem?_toArray, List.getElem?_cons_zero, List.getElem?_cons_succ] at k0 k1 k2 k3
          refine bodyPost_ret (v := .tuple #[wval (room : Int) (.slice a4 D2.length c4) p most, .int .i64 0]) (by simp [results, Tryz.results25, go_sem, k0, k1, k2, k3]) rfl ?_
          rw [Hres.out]
          exact ⟨_, rfl, h7.drop.drop.drop.src_out⟩
        · obtain ⟨rfl, rfl, hb4⟩ : v4 = (.slice a D.length c) ∧ D = D2 ∧ Below wX.heap.size wX w4 := by
            rcases ho4 with ⟨h, _⟩ | ⟨_, h, h'⟩
            · exact absurd h he
            · exact ⟨h, (ea he).symm, h'⟩
          have h4 := hX.of_below hb4
          clear ho4 cA ea
          have hne : (e2 == 0) = false := by simpa using he
          have hne' : (e2 != 0) = true := by simpa using he
          go_upto_region 19 with (fail)
          have h8 := h4.alloc' (.cells #[.int .i64 (room : Int), (.slice a D.length c)] 54) (n := w4.heap.size) rfl
          generalize w4.alloc (.cells #[.int .i64 (room : Int), (.slice a D.length c)] 54) = w8 at h8 ⊢
          generalize w4.heap.size = b9 at h8 ⊢
          clear h4
          have x0 := h8.p2.pt_cell 0
          have x1 := h8.p2.pt_cell 1
          have x2 := h8.p2.pt_cell 2
          have x3 := h8.p2.pt_cell 3
          have f0 := h8.p2.pt_free 0
          have f1 := h8.p2.pt_free 1
          have b1 := h8.p2.pt_lt
          have z0 := h8.p3.pt_cell 0
          have z1 := h8.p3.pt_cell 1
          have z2 := h8.p3.pt_cell 2
          have z3 := h8.p3.pt_cell 3
          have g0 := h8.p3.pt_free 0
          have g1 := h8.p3.pt_free 1
          have g2 := h8.p3.pt_free 2
          have g3 := h8.p3.pt_free 3
          have b2 := h8.p3.pt_lt
          simp only [List.getElem?_toArray, List.getElem?_cons_zero, List.getElem?_cons_succ] at x0 x1 x2 x3 z0 z1 z2 z3
          go_wp2_with fail
          have h7 := (((h8.p3.set (j := 0) (.int .i64 (room : Int))).set (j := 1) (.slice a D.length c)).set (j := 2) (.string (bA p))).set (j := 3) (.int .i64 most)
          generalize World.setCell (World.setCell (World.setCell (World.setCell _ _ _) _ _) _ _) _ _ = wz at h7 ⊢
          have k0 := h7.pt_cell 0
          have k1 := h7.pt_cell 1
          have k2 := h7.pt_cell 2
          have k3 := h7.pt_cell 3
          simp only [List.setIfInBounds_toArray, List.set_cons_zero, List.set_cons_succ, List.getElem?_toArray, List.getElem?_cons_zero, List.getElem?_cons_succ] at k0 k1 k2 k3
          refine bodyPost_ret (v := .tuple #[wval (room : Int) (.slice a D.length c) p most, .int .i64 e2]) (by simp [results, Tryz.results25, go_sem, k0, k1, k2, k3]) rfl ?_
          rw [Hres.out]
          exact ⟨_, rfl, h7.drop.drop.swap.drop.src_out⟩
      · have hlt' : ¬ (hv.length : Int) < most := hlt
        by_cases hbig : 1000000000000000 < nx
        · have hres := Hap2.out
          rw [if_neg hlt, if_pos hbig] at hres
          have Hres := Lib.hid hres
          have b3 : (nx : Int) > 1000000000000000 := by omega
          have b3' : (1000000000000000 : Int) < (nx : Int) := by omega
          clear hres hlt
          go_wp2_with fail
          refine (cNx _ (h7.src_R Hq.out)).mono ?_
          rintro y w8 ⟨rfl, hb8⟩
          have h8 := h7.of_below hb8
          clear x0 x1 x2 x3 h7
          have x0 := h8.swap.pt_cell 0
          have x1 := h8.swap.pt_cell 1
          have x2 := h8.swap.pt_cell 2
          have x3 := h8.swap.pt_cell 3
          have f0 := h8.swap.pt_free 0
          have f1 := h8.swap.pt_free 1
          have b1 := h8.swap.pt_lt
          have z0 := h8.p2.pt_cell 0
          have z1 := h8.p2.pt_cell 1
          have z2 := h8.p2.pt_cell 2
          have z3 := h8.p2.pt_cell 3
          have g0 := h8.p2.pt_free 0
          have g1 := h8.p2.pt_free 1
          have g2 := h8.p2.pt_free 2
          have g3 := h8.p2.pt_free 3
          have b2 := h8.p2.pt_lt
          simp only [List.getElem?_toArray, List.getElem?_cons_zero, List.getElem?_cons_succ] at x0 x1 x2 x3 z0 z1 z2 z3
          go_wp2_with fail
          have h12 := (((h8.p2.set (j := 0) (.int .i64 (room : Int))).set (j := 1) (.slice a D.length c)).set (j := 2) (.string (bA p))).set (j := 3) (.int .i64 most)
          generalize World.setCell (World.setCell (World.setCell (World.setCell _ _ _) _ _) _ _) _ _ = wz at h12 ⊢
          have k0 := h12.pt_cell 0
          have k1 := h12.pt_cell 1
          have k2 := h12.pt_cell 2
          have k3 := h12.pt_cell 3
          simp only [List.setIfInBounds_toArray, List.set_cons_zero, List.set_cons_succ, List.getElem?_toArray, List.getElem?_cons_zero, List.getElem?_cons_succ] at k0 k1 k2 k3
          refine bodyPost_ret (v := .tuple #[wval (room : Int) (.slice a D.length c) p most, .int .i64 7]) (by simp [results, Tryz.results25, go_sem, k0, k1, k2, k3]) rfl ?_
          rw [Hres.out]
          exact ⟨_, rfl, h12.drop.swap.drop.src_out⟩
        · have hres := Hap2.out
          rw [if_neg hlt, if_neg hbig] at hres
          have b3 : ¬ (nx : Int) > 1000000000000000 := by omega
          have b3' : ¬ (1000000000000000 : Int) < (nx : Int) := by omega
          obtain ⟨e3, D1, q3⟩ : ∃ e3 D1, syncD D nm = (e3, D1) := ⟨_, _, rfl⟩
          have ok1 : DOk room D1 := by have := HD.out.sync' nm; rw [q3] at this; exact this
          have l1 : D1.length ≤ 999990 := by have := len_sync HD.out.srt nm; rw [q3] at this; simp only at this; have := Hl.out; omega
          have u1 : usedD D1 ≤ 1000000000000 := by have := used_sync (m := nm) HD.out; rw [q3] at this; simp only at this; have := Hu.out; omega
          have es : e3 ≠ 0 → D1 = D := fun h => by have := q_sync_err (D := D) (n := nm); rw [q3] at this; exact this h
          simp only [q3] at cS hres
          obtain ⟨e2, D2, hD2⟩ : ∃ e2 D2, appendD room D1 nn fr = (e2, D2) := ⟨_, _, rfl⟩
          rw [hD2] at hres
          have Hres := Lib.hid hres
          have ea : e2 ≠ 0 → D2 = D1 := fun h => by have := q_append_err (room := room) (D := D1) (n := nn) (d := fr); rw [hD2] at this; exact this h
          clear hres hlt q3
          go_wp2_with fail
          refine (cNx _ (h7.src_R Hq.out)).mono ?_
          rintro y w8 ⟨rfl, hb8⟩
          have h8 := h7.of_below hb8
          clear x0 x1 x2 x3 h7
          obtain ⟨x0, x1, x2, x3⟩ := hS _ _ h8.swap
          go_wp2_with fail
          refine (cS _ _ (h8.src_R Hq.out)).mono ?_
          rintro y w9 ⟨v9, rfl, ho9⟩
          have h9 := h8.src_new (ho9.new es)
          clear ho9 x0 x1 x2 x3 h8 cS
          obtain ⟨a9, c9, rfl⟩ := (h9.src_R Hq.out).len
          have x0 := h9.swap.pt_cell 0
          have x1 := h9.swap.pt_cell 1
          have f0 := h9.swap.pt_free 0
          have f1 := h9.swap.pt_free 1
          simp only [List.getElem?_toArray, List.getElem?_cons_zero, List.getElem?_cons_succ] at x0 x1
          go_wp2_with fail
          have hX := ((h9.swap.set (j := 0) (.int .i64 (room : Int))).set (j := 1) (.slice a9 D1.length c9)).swap
          simp only [List.setIfInBounds_toArray, List.set_cons_zero, List.set_cons_succ] at hX
          generalize (World.setCell _ _ _).setCell _ _ = wX at hX ⊢
          have cA := pqAppend nn fr (hX.src_R Hq.out) ok1 (by omega) (by omega) hnnl (by have := Hfl.out; omega)
          simp only [hD2] at cA
          clear hD2 h9 x0 x1 f0 f1
          refine cA.mono ?_
          rintro y w4 ⟨v4, rfl, ho4⟩
          try simp only at ho4
          by_cases he : e2 = 0
          · subst he
            have h4 := hX.src_new (ho4.new (D := D1) ea)
            clear ho4 cA ea
            obtain ⟨a4, c4, rfl⟩ := (h4.src_R Hq.out).len
            go_upto_region 20 with (fail)
            have h8 := h4.alloc' (.cells #[.int .i64 (room : Int), .slice a4 D2.length c4] 54) (n := w4.heap.size) rfl
            generalize w4.alloc (.cells #[.int .i64 (room : Int), .slice a4 D2.length c4] 54) = w8 at h8 ⊢
            generalize w4.heap.size = b9 at h8 ⊢
            clear h4
            have y0 := h8.pt_cell 0
            have y1 := h8.pt_cell 1
            simp only [List.getElem?_toArray, List.getElem?_cons_zero, List.getElem?_cons_succ] at y0 y1
            have x0 := h8.p2.pt_cell 0
            have x1 := h8.p2.pt_cell 1
            have x2 := h8.p2.pt_cell 2
            have x3 := h8.p2.pt_cell 3
            have f0 := h8.p2.pt_free 0
            have f1 := h8.p2.pt_free 1
            have b1 := h8.p2.pt_lt
            have z0 := h8.p3.pt_cell 0
            have z1 := h8.p3.pt_cell 1
            have z2 := h8.p3.pt_cell 2
            have z3 := h8.p3.pt_cell 3
            have g0 := h8.p3.pt_free 0
            have g1 := h8.p3.pt_free 1
            have g2 := h8.p3.pt_free 2
            have g3 := h8.p3.pt_free 3
            have b2 := h8.p3.pt_lt
            simp only [List.getElem?_toArray, List.getElem?_cons_zero, List.getElem?_cons_succ] at x0 x1 x2 x3 z0 z1 z2 z3
            go_wp2_with fail
            have h5 := (h8.p2.set (j := 0) (.int .i64 (room : Int))).set (j := 1) (.slice a4 D2.length c4)
            have h7 := (((h5.p3.set (j := 0) (.int .i64 (room : Int))).set (j := 1) (.slice a4 D2.length c4)).set (j := 2) (.string (bA p))).set (j := 3) (.int .i64 most)
            generalize World.setCell (World.setCell (World.setCell (World.setCell (World.setCell (World.setCell _ _ _) _ _) _ _) _ _) _ _) _ _ = wz at h7 ⊢
            have k0 := h7.pt_cell 0
            have k1 := h7.pt_cell 1
            have k2 := h7.pt_cell 2
            have k3 := h7.pt_cell 3
            simp only [List.setIfInBounds_toArray, List.set_cons_zero, List.set_cons_succ, List.getElem?_toArray, List.getElem?_cons_zero, List.getElem?_cons_succ] at k0 k1 k2 k3
            refine bodyPost_ret (v := .tuple #[wval (room : Int) (.slice a4 D2.length c4) p most, .int .i64 0]) (by simp [results, Tryz.results25, go_sem, k0, k1, k2, k3]) rfl ?_
            rw [Hres.out]
            exact ⟨_, rfl, h7.drop.drop.drop.src_out⟩
          · obtain ⟨rfl, rfl, hb4⟩ : v4 = (.slice a9 D1.length c9) ∧ D1 = D2 ∧ Below wX.heap.size wX w4 := by
              rcases ho4 with ⟨h, _⟩ | ⟨_, h, h'⟩
              · exact absurd h he
              · exact ⟨h, (ea he).symm, h'⟩
            have h4 := hX.of_below hb4
            clear ho4 cA ea
            have hne : (e2 == 0) = false := by simpa using he
            have hne' : (e2 != 0) = true := by simpa using he
            go_upto_region 19 with (fail)
            have h8 := h4.alloc' (.cells #[.int .i64 (room : Int), (.slice a9 D1.length c9)] 54) (n := w4.heap.size) rfl
            generalize w4.alloc (.cells #[.int .i64 (room : Int), (.slice a9 D1.length c9)] 54) = w8 at h8 ⊢
            generalize w4.heap.size = b9 at h8 ⊢
            clear h4
            have x0 := h8.p2.pt_cell 0
            have x1 := h8.p2.pt_cell 1
            have x2 := h8.p2.pt_cell 2
            have x3 := h8.p2.pt_cell 3
            have f0 := h8.p2.pt_free 0
            have f1 := h8.p2.pt_free 1
            have b1 := h8.p2.pt_lt
            have z0 := h8.p3.pt_cell 0
            have z1 := h8.p3.pt_cell 1
            have z2 := h8.p3.pt_cell 2
            have z3 := h8.p3.pt_cell 3
            have g0 := h8.p3.pt_free 0
            have g1 := h8.p3.pt_free 1
            have g2 := h8.p3.pt_free 2
            have g3 := h8.p3.pt_free 3
            have b2 := h8.p3.pt_lt
            simp only [List.getElem?_toArray, List.getElem?_cons_zero, List.getElem?_cons_succ] at x0 x1 x2 x3 z0 z1 z2 z3
            go_wp2_with fail
            have h7 := (((h8.p3.set (j := 0) (.int .i64 (room : Int))).set (j := 1) (.slice a9 D1.length c9)).set (j := 2) (.string (bA p))).set (j := 3) (.int .i64 most)
            generalize World.setCell (World.setCell (World.setCell (World.setCell _ _ _) _ _) _ _) _ _ = wz at h7 ⊢
            have k0 := h7.pt_cell 0
            have k1 := h7.pt_cell 1
            have k2 := h7.pt_cell 2
            have k3 := h7.pt_cell 3
            simp only [List.setIfInBounds_toArray, List.set_cons_zero, List.set_cons_succ, List.getElem?_toArray, List.getElem?_cons_zero, List.getElem?_cons_succ] at k0 k1 k2 k3
            refine bodyPost_ret (v := .tuple #[wval (room : Int) (.slice a9 D1.length c9) p most, .int .i64 e2]) (by simp [results, Tryz.results25, go_sem, k0, k1, k2, k3]) rfl ?_
            rw [Hres.out]
            exact ⟨_, rfl, h7.drop.drop.swap.drop.src_out⟩
end
end Go.Proofs.YtdngjkjoahgelaaGreatDoor
