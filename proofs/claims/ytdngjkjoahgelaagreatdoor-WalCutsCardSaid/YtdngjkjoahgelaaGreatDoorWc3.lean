/-
  wal: Cut: contract.
-/
import Derived.Test.YtdngjkjoahgelaaGreatDoorWc2
namespace Go.Proofs.YtdngjkjoahgelaaGreatDoor
set_option linter.all false
set_option maxRecDepth 100000
set_option maxHeartbeats 4000000
open Go.RowKit
section
variable {B w w' : World} {L M : List HP} {q p most room fr : Nat} {pre : Bt} {D D1 : Fls} {F F' : List WF} {f : WF}
def CutPost (B : World) (L : List HP) (q p most room : Nat) (pre : Bt) (D : Fls) (F : List WF) (fr : Nat) (y : Ending) (w' : World) : Prop :=
  y = .returned (.int .i64 (cutW room pre D F fr).1) ∧ Sat B (wal q p pre most (cutW room pre D F fr).2.2 :: disk p room (cutW room pre D F fr).2.1 :: L) w'
theorem pwCut_low (hlow : fr < firstW F) (hfr : fr ≤ 18446744073709551615) (h : Sat B (wal q p pre most F :: disk p room D :: L) w) :
    Calls Tryz.prog 21 #[.pointer (some ⟨q, 0, none⟩), .int .u64 (fr : Int)] w (CutPost B L q p most room pre D F fr) := by
  have c0 := (wal_cells h).1
  have hno := pwNone (q := q) c0
  have hfi := pwFirst h
  have Hw := Lib.hid (cutW_low (room := room) (pre := pre) (D := D) hlow)
  obtain ⟨x, hx⟩ : ∃ x, firstW F = x := ⟨_, rfl⟩
  rw [hx] at hfi hlow
  have b1 : (fr : Int) < (x : Int) := by omega
  have b2 : (fr : Int) ≤ 18446744073709551615 := by omega
  clear hx hlow c0
  go_enter Tryz.func21, Tryz.ntmps21
  go_wp2_with (first
    | (go_at_call 39; refine hno.mono ?_; rintro y w1 ⟨rfl, rfl⟩)
    | (go_at_call 13; refine hfi.mono ?_; rintro y w1 ⟨rfl, rfl⟩))
  go_ret
  unfold CutPost
  rw [Hw.out]
  exact ⟨rfl, h⟩
theorem pwCut_high (h1 : firstW F ≤ fr) (h2 : nextW F ≤ fr) (hfr : fr ≤ 18446744073709551615) (h : Sat B (wal q p pre most F :: disk p room D :: L) w) :
    Calls Tryz.prog 21 #[.pointer (some ⟨q, 0, none⟩), .int .u64 (fr : Int)] w (CutPost B L q p most room pre D F fr) := by
  have c0 := (wal_cells h).1
  have hno := pwNone (q := q) c0
  have hfi := pwFirst h
  have hnx := pwNext h
  have Hw := Lib.hid (cutW_high (room := room) (pre := pre) (D := D) h1 h2)
  obtain ⟨x, hx⟩ : ∃ x, firstW F = x := ⟨_, rfl⟩
  obtain ⟨nx, hn⟩ : ∃ nx, nextW F = nx := ⟨_, rfl⟩
  rw [hx] at hfi h1
  rw [hn] at hnx h2
  have b1 : ¬ (fr : Int) < (x : Int) := by omega
  have b1' : (x : Int) ≤ (fr : Int) := by omega
  have b2 : (fr : Int) ≤ 18446744073709551615 := by omega
  have b3 : (fr : Int) ≥ (nx : Int) := by omega
  have b4 : (nx : Int) ≤ (fr : Int) := by omega
  clear hx h1 h2 hn c0
  go_enter Tryz.func21, Tryz.ntmps21
  go_wp2_with (first
    | (go_at_call 39; refine hno.mono ?_; rintro y w1 ⟨rfl, rfl⟩)
    | (go_at_call 13; refine hfi.mono ?_; rintro y w1 ⟨rfl, rfl⟩)
    | (go_at_call 14; refine hnx.mono ?_; rintro y w1 ⟨rfl, k2, rfl⟩))
  go_ret
  unfold CutPost
  rw [Hw.out]
  exact ⟨rfl, h.drewN k2⟩
theorem rec_last {G' : List (WF × Value)} {v : Value} {A0 A1 : HP} (h : Sat B (A0 :: A1 :: stars ((G' ++ [(f, v)]).map recP) :: L) w) :
    ∃ a c, v = .slice a f.recs.length c ∧ f.recs.length ≤ c ∧ c ≤ maxLen ∧ ∀ j b, f.recs[j]? = some b → ∃ g o, a = some ⟨g, o, none⟩ ∧ w.cell? ⟨g, o + j, none⟩ = some (.string (bA b)) := by
  have h1 := h.p2
  rw [List.map_append] at h1
  have h2 := Sat.mid (L2 := []) h1
  obtain ⟨a, c, e, _, hn, hm, hc⟩ := (show Sat B (row 9 1 v f.recs.length (strB f.recs) :: _) w from h2).row_reads
  exact ⟨a, c, e, hn, hm, fun j b hb => hc j _ (strB_get hb)⟩
theorem pwCut_in (hE : Env B) (hch : chainW none F) (hrs : ∀ g ∈ F, ∀ r ∈ g.recs, r.length ≤ 1048576) (h1 : firstW F ≤ fr) (h2 : fr < nextW F) (hfr : fr ≤ 18446744073709551615) (h : Sat B (wal q p pre most F :: disk p room D :: L) w) :
    Calls Tryz.prog 21 #[.pointer (some ⟨q, 0, none⟩), .int .u64 (fr : Int)] w (CutPost B L q p most room pre D F fr) := by
  have c0 := (wal_cells h).1
  have hno := pwNone (q := q) c0
  have hfi := pwFirst h
  have hnx := pwNext h
  have hne : F ≠ [] := by
    rintro rfl
    simp [firstW, nextW] at h1 h2
    omega
  have HI := Lib.hid (show CutI pre fr F D F D from ⟨rfl, hne, hch, h1, h2, hrs⟩)
  have H12 := Lib.hid (And.intro h1 h2)
  obtain ⟨x, hx⟩ : ∃ x, firstW F = x := ⟨_, rfl⟩
  obtain ⟨nx, hn⟩ : ∃ nx, nextW F = nx := ⟨_, rfl⟩
  rw [hx] at hfi h1
  rw [hn] at hnx h2
  have b1 : ¬ (fr : Int) < (x : Int) := by omega
  have b1' : (x : Int) ≤ (fr : Int) := by omega
  have b2 : (fr : Int) ≤ 18446744073709551615 := by omega
  have b3 : ¬ (fr : Int) ≥ (nx : Int) := by omega
  have b4 : ¬ (nx : Int) ≤ (fr : Int) := by omega
  have b5 : (fr : Int) < (nx : Int) := by omega
  have b6 : ¬ nx ≤ fr := by omega
  have b7 : ¬ fr < x := by omega
  obtain ⟨N, hN⟩ : ∃ N, F.length = N := ⟨_, rfl⟩
  obtain ⟨fv, G, hG, hok, h3⟩ := wal_open h
  have c3 : w.cell? ⟨q, 3, none⟩ = some fv := h3.pt_cell 3
  obtain ⟨a, c, rfl, ha, hnc, hc⟩ := h3.swap.row_reads
  have hc : c ≤ 9223372036854775807 := by have := hc.1; unfold maxLen at this; omega
  rw [show G.length = N by rw [← hN, ← hG, List.length_map]] at c3
  have n1 : (N : Int) ≤ 1000000 := by have := hok.many; omega
  have HN := Lib.hid hN
  clear hx h1 h2 hn c0 hch hrs hne hN hG hok h3 ha hnc hc
  go_enter Tryz.func21, Tryz.ntmps21
  go_wp2_with (first
    | (go_at_call 39; refine hno.mono ?_; rintro y w2 ⟨rfl, rfl⟩)
    | (go_at_call 13; refine hfi.mono ?_; rintro y w3 ⟨rfl, rfl⟩)
    | (go_at_call 14; refine hnx.mono ?_; rintro y w4 ⟨rfl, k2, rfl⟩))
  have h0 := h.drewN k2
  generalize w3.drewN k2 = w1 at h0 ⊢
  clear c3 hno hfi hnx b1 b1' b3 b4 b5 b6 b7 h
  go_loopg [5] (N + 1) (fun gh v5 wr => ∃ (F1 : List WF) (D1 : Fls) (n : Nat), CutI pre fr F D F1 D1 ∧ F1.length = n ∧ n ≤ gh ∧ v5 = .int .i64 (n : Int) ∧ Sat B (wal q p pre most F1 :: disk p room D1 :: L) wr)
  case atStart => exact ⟨F, D, N, HI.out, HN.out, by omega, rfl, h0⟩
  case round =>
    clear h0
    obtain ⟨F1, D1, n, hI, hF1, hlen, rfl, h3⟩ := hrel
    obtain ⟨F', f, rfl⟩ := (snoc_cases F1).resolve_left hI.ne
    obtain ⟨fv, G, hG, hok, h4⟩ := wal_open h3
    have c0 : wr.cell? ⟨q, 0, none⟩ = some (.pointer (some ⟨p, 0, none⟩)) := h4.pt_cell 0
    have c3 : wr.cell? ⟨q, 3, none⟩ = some fv := h4.pt_cell 3
    obtain ⟨a, c, rfl, ha, hnc, hc⟩ := h4.swap.row_reads
    have hc : c ≤ 9223372036854775807 := by have := hc.1; unfold maxLen at this; omega
    obtain ⟨G', v, rfl, hG'⟩ := wal_snoc hG
    obtain ⟨m, hm⟩ : ∃ m, G'.length = m := ⟨_, rfl⟩
    have hx : (G' ++ [(f, v)])[m]? = some (f, v) := by rw [← hm]; simp
    have hl : (G' ++ [(f, v)]).length = m + 1 := by simp [hm]
    have hFl : F'.length = m := by rw [← hG', List.length_map, hm]
    obtain rfl : n = m + 1 := by simp at hF1; omega
    rw [hl] at c3 h4 ha hnc
    obtain ⟨g, off, rfl⟩ := row_some (g := Unit) h4.swap (by omega)
    obtain ⟨d1, _, d3, _⟩ := file_at h4.swap hx
    simp only at d1 d3
    have hf := hok.first f (by simp)
    have hmn : m + 1 ≤ 1000000 := by have := hok.many; simp at this; omega
    have m1 : (m : Int) ≤ 1000000 := by omega
    have m2 : (m : Int) < (m : Int) + 1 := by omega
    have m3 : 0 < (m : Int) + 1 := by omega
    have ew : IntKind.i64.wrap (m : Int) = (m : Int) := wraps_i64' _ (by omega) (by omega)
    have hc2 : m + 1 ≤ c := hnc
    have hc3 : (c : Int) ≤ 9223372036854775807 := by omega
    have hpl := hok.pre
    have Hok := Lib.hid hok
    have Hx := Lib.hid hx
    have Hl := Lib.hid hl
    have HG' := Lib.hid hG'
    have Hm := Lib.hid hm
    have HFl := Lib.hid hFl
    have Hlen := Lib.hid hlen
    have HI2 := Lib.hid hI
    clear hG hok ha hnc hc hx hl hm hG' hlen hF1 HI HN hFl
    by_cases hgt : fr < f.first
    · have l1 : (f.first : Int) > (fr : Int) := by omega
      have l2 : (fr : Int) < (f.first : Int) := by omega
      have hS : ∀ (D' : Fls) (w' : World), Sat B (pt q (wlC p pre most (.slice (some ⟨g, off, none⟩) (m + 1) c)) :: row 87 3 (.slice (some ⟨g, off, none⟩) (m + 1) c) (m + 1) ((G' ++ [(f, v)]).flatMap wfC) :: stars ((G' ++ [(f, v)]).map recP) :: disk p room D' :: L) w' →
          w'.cell? ⟨q, 0, none⟩ = some (.pointer (some ⟨p, 0, none⟩)) ∧ w'.cell? ⟨q, 3, none⟩ = some (.slice (some ⟨g, off, none⟩) (m + 1) c) ∧ w'.cell? ⟨g, off + m * 3, none⟩ = some (.int .u64 (f.first : Int)) := fun D' w' h' =>
        ⟨h'.pt_cell 0, h'.pt_cell 3, (file_at h'.swap Hx.out).1⟩
      have hc1 : ∀ w', Sat B (pt q (wlC p pre most (.slice (some ⟨g, off, none⟩) (m + 1) c)) :: row 87 3 (.slice (some ⟨g, off, none⟩) (m + 1) c) (m + 1) ((G' ++ [(f, v)]).flatMap wfC) :: stars ((G' ++ [(f, v)]).map recP) :: disk p room D1 :: L) w' →
          w'.cell? ⟨q, 1, none⟩ = some (.string (bA pre)) := fun w' h' => h'.pt_cell 1
      have h4d := h4.drew
      have h0 := hS _ _ h4d
      have Hgt := Lib.hid hgt
      clear h3 h4 d3 hgt
      go_wp2_with fail
      go_region_held3 (fun w' => w'.cell? ⟨q, 0, none⟩ = some (.pointer (some ⟨p, 0, none⟩)) ∧ w'.cell? ⟨q, 3, none⟩ = some (.slice (some ⟨g, off, none⟩) (m + 1) c) ∧ w'.cell? ⟨g, off + m * 3, none⟩ = some (.int .u64 (f.first : Int)))
        (first | exact h0 | exact hS _ _ h6.q3 | exact hS _ _ h5)
        (first
          | (go_at_call 37; refine (pwName hE f.first hf.2 h4d hc1 hpl).mono ?_; rintro y w5 ⟨rfl, h5⟩)
          | (go_at_call 33; refine (pdRemove (nameW pre f.first) h5.p3).mono ?_; rintro y w6 ⟨rfl, h6⟩))
      all_goals
        have h7 := h6.q3
        obtain ⟨k0, k3, _⟩ := hS _ _ h7
        have kf := h7.pt_free 3
        go_wp2_with fail
        go_roundg (gk - 1)
        case measure => have := Hlen.out; omega
        case rel =>
          refine ⟨F', _, m, (HI2.out.pop Hgt.out).1, HFl.out, by have := Hlen.out; omega, by go_num, ?_⟩
          have h8 := wal_init (x := (f, v)) Hm.out hc2 (by rw [HG'.out]; exact Hok.out) h7
          rw [HG'.out] at h8
          exact h8
    · obtain ⟨hk, hcw⟩ := HI2.out.last (room := room) hgt H12.out.1 H12.out.2
      obtain ⟨k, hkk⟩ : ∃ k, fr - f.first = k := ⟨_, rfl⟩
      rw [hkk] at hk hcw
      obtain ⟨ra, rc, hv, hrc, hrm, hrec⟩ := rec_last h4
      subst hv
      obtain ⟨rl, hrl⟩ : ∃ rl, f.recs.length = rl := ⟨_, rfl⟩
      have hrl1 : rl ≤ 1099511627776 := by have := Hok.out.recs f (by simp); have := rs_le f.recs; simp only [WF.size] at *; omega
      obtain ⟨g2, o2, rfl⟩ : ∃ g2 o2, ra = some ⟨g2, o2, none⟩ := by
        obtain ⟨g2, o2, e, _⟩ := hrec 0 _ (List.getElem?_eq_getElem (by omega))
        exact ⟨g2, o2, e⟩
      have hrs1 := HI2.out.recs f (by simp)
      rw [hrl] at hrc hk
      have l1 : ¬ (f.first : Int) > (fr : Int) := by omega
      have l2 : (f.first : Int) ≤ (fr : Int) := by omega
      have ek1 : IntKind.u64.wrap ((fr : Int) - (f.first : Int)) = (k : Int) := by rw [IntKind.wrap_u64]; omega
      have ek2 : IntKind.i64.wrap (k : Int) = (k : Int) := wraps_i64' _ (by omega) (by omega)
      have n1 : (k : Int) ≤ 1099511627776 := by omega
      have n2 : (k : Int) ≤ (rl : Int) := by omega
      have n3 : (rl : Int) ≤ (rc : Int) := by omega
      have n4 : (rc : Int) ≤ 9223372036854775807 := by unfold maxLen at hrm; omega
      have n5 : k ≤ rc := by omega
      have Hcw := Lib.hid hcw
      have Hkk := Lib.hid hkk
      have Hrl := Lib.hid hrl
      have Hrs := Lib.hid hrs1
      have Hrec := Lib.hid hrec
      rw [hrl] at d3
      clear hcw hkk hrl hrs1 hrec hgt h3 H12 HI2 hrm hrc
      go_wp2_with fail
      go_quiet (fail)
      have h5 := h4.drewN nq
      generalize wr.drewN nq = w2 at h5 ⊢
      obtain ⟨b0, hb0⟩ : ∃ b0, w2.heap.size = b0 := ⟨_, rfl⟩
      have e1 := (file_at h5.swap Hx.out).1
      simp only at e1
      have h5a := h5.alloc (.cells #[.pointer none, .slice none 0 0] 99)
      have e3 := (file_at h5a.p2 Hx.out).2.2.1
      simp only at e3
      rw [Hrl.out] at e3
      have hbld : Lib.IsBuilderF 99 5 b0 b0 (Lib.byteCells (framesB (f.recs.take 0))) (w2.alloc (.cells #[.pointer none, .slice none 0 0] 99)) := by
        have := Lib.IsBuilderF.of (Lib.fresh_isBuilder 99 5 w2)
        rw [hb0] at this
        exact this
      have hbe0 : Below b0 w2 (w2.alloc (.cells #[.pointer none, .slice none 0 0] 99)) := (Below.refl b0 w2).alloc (by omega) _
      have hrecs : ∀ wx, Below b0 w2 wx → ∀ j b, f.recs[j]? = some b → wx.cell? ⟨g2, o2 + j, none⟩ = some (.string (bA b)) := fun wx hbw j b hj => by
        have hs := h5.of_below (w' := wx) (by rw [hb0]; exact hbw)
        obtain ⟨a, c, e, _, _, hr⟩ := rec_last hs
        rw [Hrl.out] at e
        cases e
        obtain ⟨g', o', e, hc⟩ := hr j b hj
        cases e
        exact hc
      have Hb0 := Lib.hid hb0
      clear h4 c0 c3 d1 d3 hb0 h5a
      go_wp2_with fail
      rw [Hb0.out]
      go_loopg [99] (k + 1) (fun gh v99 wx => ∃ i : Nat, i ≤ k ∧ k + 1 ≤ i + gh ∧ v99 = .int .i64 (i : Int) ∧ Lib.IsBuilderF 99 5 b0 b0 (Lib.byteCells (framesB (f.recs.take i))) wx ∧ Below b0 w2 wx)
      case atStart => exact ⟨0, by omega, by omega, rfl, hbld, hbe0⟩
      case round =>
        clear hbld hbe0 e1 e3
        obtain ⟨i, hi1, hi2, rfl, hbf, hbw⟩ := hrel
        have hsz : b0 ≤ wr.heap.size := by have := hbw.size; rw [Hb0.out] at this; exact this
        by_cases hi : i < k
        · obtain ⟨r, hr⟩ : ∃ r, f.recs[i]? = some r := ⟨_, List.getElem?_eq_getElem (by rw [Hrl.out]; omega)⟩
          have cr := hrecs _ hbw i r hr
          have hrlen := Hrs.out r (List.mem_of_getElem? hr)
          have hfrm := psFrame r hrlen (Sat.start wr)
          have i1 : (i : Int) < (k : Int) := by omega
          have htk : f.recs.take (i + 1) = f.recs.take i ++ [r] := by rw [List.take_add_one, hr]; rfl
          have hfl : framesB (f.recs.take (i + 1)) = framesB (f.recs.take i) ++ frameB r := by rw [htk, frames_app]; simp [framesB]
          have hwr : ∀ w', Sat wr [] w' → Calls Tryz.prog 47 #[.pointer (some ⟨b0, 0, none⟩), .string (bA (frameB r))] w' fun e w'' => e = .returned (.tuple #[.int .i64 ((bA (frameB r)).size : Int), .nilIface]) ∧ Lib.IsBuilderF 99 5 b0 b0 (Lib.byteCells (framesB (f.recs.take (i + 1)))) w'' ∧ Below b0 w2 w'' := fun w' hs => by
            have hb' := bf_below hbf hs.below
            have hbl := hbw.trans (hs.below.mono hsz)
            have hle : (framesB (f.recs.take (i + 1))).length ≤ 1099511627776 := by
              have h8 := Hok.out.recs f (by simp)
              have h9 : framesB f.recs = framesB (f.recs.take (i + 1)) ++ framesB (f.recs.drop (i + 1)) := by rw [← frames_app, List.take_append_drop]
              have h10 := congrArg List.length h9
              rw [List.length_append, frames_len, frames_len] at h10
              rw [frames_len]
              simp only [WF.size] at h8
              omega
            rw [hfl, List.length_append] at hle
            have hsf : (bA (frameB r)).size = (frameB r).length := by simp [ByteArray.size]
            refine (Any.Builder_WriteString_f { Tryz.lays105 with } Tryz.Builder_Extra_105 b0 b0 _ (bA (frameB r)) w' hb' (by rw [Lib.byteCells_length, hsf]; omega) (by have := hs.below.size; omega)).mono ?_
            rintro e w'' ⟨rfl, h7, h8⟩
            refine ⟨rfl, ?_, hbl.trans h8⟩
            rw [hfl, Lib.byteCells_append]
            exact .inr h7
          have Hhi := Lib.hid (And.intro hi hi2)
          clear hr hrlen htk hfl hbf hbw hi2 hi
          go_wp2_with (first
            | (go_at_call 41; refine hfrm.mono ?_; rintro y w5 ⟨rfl, h6⟩)
            | (go_at_call 47; refine (hwr _ h6).mono ?_; rintro y w6 ⟨rfl, h7, h8⟩))
          go_roundg (gk - 1)
          case measure => have := Hhi.out; omega
          case rel => exact ⟨i + 1, by have := Hhi.out; omega, by have := Hhi.out; omega, by go_num, h7, h8⟩
        · obtain rfl : i = k := by omega
          have hle : (framesB (f.recs.take i)).length ≤ 1099511627776 := by
            have h8 := Hok.out.recs f (by simp)
            have h9 : framesB f.recs = framesB (f.recs.take i) ++ framesB (f.recs.drop i) := by rw [← frames_app, List.take_append_drop]
            have h10 := congrArg List.length h9
            rw [List.length_append, frames_len, frames_len] at h10
            rw [frames_len]
            simp only [WF.size] at h8
            omega
          obtain ⟨bs, hbs⟩ : ∃ bs, framesB (f.recs.take i) = bs := ⟨_, rfl⟩
          have hcw := Hcw.out
          rw [hbs] at hbf hle hcw
          have h6 := h5.of_below (w' := wr) (by rw [Hb0.out]; exact hbw)
          have hS : ∀ w', Sat B (pt q (wlC p pre most (.slice (some ⟨g, off, none⟩) (m + 1) c)) :: row 87 3 (.slice (some ⟨g, off, none⟩) (m + 1) c) (m + 1) ((G' ++ [(f, Value.slice (some ⟨g2, o2, none⟩) f.recs.length rc)]).flatMap wfC) :: stars ((G' ++ [(f, Value.slice (some ⟨g2, o2, none⟩) f.recs.length rc)]).map recP) :: disk p room D1 :: L) w' →
              w'.cell? ⟨g, off + m * 3, none⟩ = some (.int .u64 (f.first : Int)) := fun w' h' => (file_at h'.swap Hx.out).1
          have hstr : Calls Tryz.prog 48 #[.pointer (some ⟨b0, 0, none⟩)] wr.drew fun e w' => e = .returned (.string (bA bs)) ∧ ∃ pv a' c', Sat B (disk p room D1 :: pt b0 (.cells #[pv, .slice a' bs.length c'] 99) :: pt q (wlC p pre most (.slice (some ⟨g, off, none⟩) (m + 1) c)) :: row 87 3 (.slice (some ⟨g, off, none⟩) (m + 1) c) (m + 1) ((G' ++ [(f, Value.slice (some ⟨g2, o2, none⟩) f.recs.length rc)]).flatMap wfC) :: stars ((G' ++ [(f, Value.slice (some ⟨g2, o2, none⟩) f.recs.length rc)]).map recP) :: L) w' := by
            refine (Tryz.Builder_String_any_f b0 b0 bs wr.drew (show Lib.IsBuilderF 99 5 b0 b0 (Lib.byteCells bs) wr from hbf) hsz).mono ?_
            rintro e w' ⟨rfl, h7, h8⟩
            refine ⟨rfl, ?_⟩
            obtain ⟨_, pv, a', c', hblk⟩ := bf_block h7 (Lib.byteCells_length _)
            have h9 := h5.of_pt (w' := w') (k := b0) (by rw [Hb0.out]; exact hbw.drew.trans h8) (by rw [Hb0.out]; exact Nat.le_refl _) hblk
            exact ⟨pv, a', c', h9.p4⟩
          have d1 := hS _ h6.drew
          have hbl : bs.length ≤ 9223372036854775807 := by omega
          obtain ⟨z, hz⟩ : ∃ z, anewW room D1 pre f.first bs = z := ⟨_, rfl⟩
          rw [hz] at hcw
          have Hcw2 := Lib.hid hcw
          have Hz := Lib.hid hz
          have Hbs := Lib.hid hbs
          have Hle := Lib.hid hle
          clear hcw hz hbs hle hbf hbw h6 hi2 hi hrecs h5 Hcw
          go_wp2_with fail
          go_region_held3 (fun w' => w'.cell? ⟨g, off + m * 3, none⟩ = some (.int .u64 (f.first : Int)))
            (first | exact d1 | exact (file_at h8.p3 Hx.out).1 | exact (file_at h7.p3 Hx.out).1)
            (first
              | (go_at_call 48; refine hstr.mono ?_; rintro y w7 ⟨rfl, pv, a', c', h7⟩)
              | (go_at_call 38; refine (pwAnew hE (fun D' w' h' => ⟨h'.p2.pt_cell 0, h'.p2.pt_cell 1⟩) hf hpl hbl h7).mono ?_; rintro y w8 ⟨rfl, h8⟩))
          rw [Hz.out] at h8 ⊢
          obtain ⟨z1, D2⟩ := z
          have hcw := Hcw2.out
          simp only at h8 hcw ⊢
          by_cases h0 : z1 = 0
          · subst h0
            rw [if_pos rfl] at hcw
            have Hcw3 := Lib.hid hcw
            clear hcw d1 hS hstr h7
            have cb : w8.cell? ⟨b0, 1, none⟩ = some (.slice a' bs.length c') := h8.swap.pt_cell 1
            have hln := fun k' => pbLen (w := w8.drewN k') (b := b0) (n := bs.length) (a := a') (c := c') cb
            have h9 := h8.swap.drop.q3
            have e3 := (file_at h9.swap Hx.out).2.2.1
            simp only at e3
            rw [Hrl.out] at e3
            go_wp2_with fail
            have e2 := (file_at h9.swap Hx.out).2.1
            simp only at e2
            have kf1 : w8.frozen? ⟨g, off + m * 3 + 1, none⟩ = false := by
              obtain ⟨_, _, e, _, kf, _⟩ := h9.swap.row_cell (m * 3 + 1) (by omega)
              cases e
              rw [Nat.add_assoc]; exact kf
            have kf2 : w8.frozen? ⟨g, off + m * 3 + 2, none⟩ = false := by
              obtain ⟨_, _, e, _, kf, _⟩ := h9.swap.row_cell (m * 3 + 2) (by omega)
              cases e
              rw [Nat.add_assoc]; exact kf
            have hln0 := pbLen (w := w8.drew) (b := b0) (n := bs.length) (a := a') (c := c') cb
            clear hln
            go_region_with (first | (go_at_call 49; refine hln0.mono ?_; rintro y w9 ⟨rfl, rfl⟩))
            all_goals
              have h9' := h9
              rw [Hrl.out] at h9'
              have hwc := wal_cut (w := w8) (k := i) (rc := rc) Hm.out Hrl.out (by omega) (by omega) (by rw [HG'.out]; exact Hok.out) h9'
              rw [Hbs.out, HG'.out] at hwc
              go_wp2_with fail
              go_ret
              unfold CutPost
              rw [Hcw3.out]
              exact ⟨rfl, hwc.drew⟩
          · rw [if_neg h0] at hcw
            have b8 : (z1 == 0) = false := by simpa using h0
            have b9 : (z1 != 0) = true := by simpa using h0
            have h9 := h8.swap.drop.q3
            have h10 := wal_close (G := G' ++ [(f, Value.slice (some ⟨g2, o2, none⟩) f.recs.length rc)]) (fv := .slice (some ⟨g, off, none⟩) (m + 1) c) (by rw [List.map_append, HG'.out]; rfl) Hok.out (by rw [Hl.out]; exact h9)
            have Hcw3 := Lib.hid hcw
            clear hcw d1 hS hstr h7 h8 h9
            go_wp2_with fail
            go_ret
            unfold CutPost
            rw [Hcw3.out]
            exact ⟨rfl, h10⟩
/-- 'Cut'. -/
theorem pwCut (hE : Env B) (hch : chainW none F) (hrs : ∀ g ∈ F, ∀ r ∈ g.recs, r.length ≤ 1048576) (hfr : fr ≤ 18446744073709551615) (h : Sat B (wal q p pre most F :: disk p room D :: L) w) :
    Calls Tryz.prog 21 #[.pointer (some ⟨q, 0, none⟩), .int .u64 (fr : Int)] w (CutPost B L q p most room pre D F fr) := by
  by_cases h1 : fr < firstW F
  · exact pwCut_low h1 hfr h
  · by_cases h2 : nextW F ≤ fr
    · exact pwCut_high (by omega) h2 hfr h
    · exact pwCut_in hE hch hrs (by omega) (by omega) hfr h
end
end Go.Proofs.YtdngjkjoahgelaaGreatDoor
