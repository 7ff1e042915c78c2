/-
  WalPlays: the document's log (acreageref07): Open (printed by wip/gen/rh6.py).
-/
import Derived.Test.YtdngjkjoahgelaaGreatDoorRh5
import Derived.Deep.DeepCutAuto
namespace Go.Proofs.YtdngjkjoahgelaaGreatDoor
set_option linter.all false
set_option maxRecDepth 100000
set_option maxHeartbeats 4000000
open Go.RowKit
def goQ (room : Nat) (p : Bt) : Option Nat → Bool → List Nat → Fls → Int × Fls
  | _, _, [], D => (0, D)
  | nx, ends, n :: ns, D =>
    if ends = true ∨ (nx ≠ none ∧ nx ≠ some n) then goQ room p nx true ns (removeD D (nameW p n)).2
    else if goodB (scanB (bytesOf (nameW p n) D)) < (bytesOf (nameW p n) D).length then
      (if (anewQ room D p n ((bytesOf (nameW p n) D).take (goodB (scanB (bytesOf (nameW p n) D))))).1 ≠ 0 then anewQ room D p n ((bytesOf (nameW p n) D).take (goodB (scanB (bytesOf (nameW p n) D))))
       else goQ room p (some (n + (scanB (bytesOf (nameW p n) D)).length)) true ns (anewQ room D p n ((bytesOf (nameW p n) D).take (goodB (scanB (bytesOf (nameW p n) D))))).2)
    else goQ room p (some (n + (scanB (bytesOf (nameW p n) D)).length)) false ns D
def openQ (room : Nat) (D : Fls) (p : Bt) : Int × Fls := goQ room p none false (numsW (removeD D (tmpW p)).2 p) (removeD D (tmpW p)).2
theorem len_anewQ (room : Nat) (D : Fls) (p : Bt) (n : Nat) (b : Bt) (h : DOk room D) : (anewQ room D p n b).2.length ≤ D.length + 2 := by
  have h1 := h.remove (tmpW p)
  have h2 := h1.append (tmpW p) b
  have l1 := len_remove D (tmpW p)
  have l2 := len_append room (removeD D (tmpW p)).2 (tmpW p) b
  have l3 := len_sync h2.srt (tmpW p)
  have l4 := len_renameQ (syncD (appendD room (removeD D (tmpW p)).2 (tmpW p) b).2 (tmpW p)).2 (tmpW p) (nameW p n)
  unfold anewQ
  split
  · simp only; omega
  · simp only; omega
theorem ok_anewQ {room : Nat} {D : Fls} {p : Bt} {n : Nat} (b : Bt) (h : DOk room D) (hn : inR n) : DOk room (anewQ room D p n b).2 := by
  have h3 := ((h.remove (tmpW p)).append (tmpW p) b).sync' (tmpW p)
  have h4 := h3.rename (tmpW p) (nameW p n)
  unfold anewQ
  split
  · rw [renameQ_eq _ (tmp_ne hn)]; exact h4
  · exact h.remove (tmpW p)
section
variable {B w w' : World} {L : List HP} {room : Nat} {most : Int} {D : Fls} {v : Value} {p : Bt}
theorem pqOpen_bad (hq : qR w v D) (hp : p.length ≤ 48) (hm : most < 1) :
    Calls Tryz.prog 23 #[qval (room : Int) v, .string (bA p), .int .i64 most] w fun y w' => y = .returned (.tuple #[wval (room : Int) v [] 0, .int .i64 2]) ∧ Below w.heap.size w w' := by
  obtain ⟨a, c, rfl⟩ := hq.len
  obtain ⟨bx, hbx⟩ : ∃ bx, w.heap.size = bx := ⟨_, rfl⟩
  have hzp : (bA p).size = p.length := bA_size p
  have p1 : (p.length : Int) ≤ 48 := by omega
  clear hq
  go_enter Tryz.func23, Tryz.ntmps23
  go_wp2_with fail
  have h2 := ((Sat.start w).alloc' (.cells #[.int .i64 (room : Int), .slice a D.length c] 54) (n := bx) hbx.symm).alloc' (.cells #[.int .i64 (room : Int), .slice a D.length c, .string ⟨#[]⟩, .int .i64 0] 58) (n := bx + 1) (by simp [hbx])
  have k0 := h2.pt_cell 0
  have k1 := h2.pt_cell 1
  have k2 := h2.pt_cell 2
  have k3 := h2.pt_cell 3
  simp only [List.setIfInBounds_toArray, List.set_cons_zero, List.set_cons_succ, List.getElem?_toArray, List.getElem?_cons_zero, List.getElem?_cons_succ] at k0 k1 k2 k3
  refine bodyPost_ret (v := .tuple #[wval (room : Int) (.slice a D.length c) [] 0, .int .i64 2]) (by simp [results, Tryz.results23, go_sem, k0, k1, k2, k3]) rfl ?_
  exact ⟨rfl, h2.below⟩
theorem pqOpenW (hq : qR w v D) (hD : DOk room D) (hl : D.length ≤ 999000) (hu : usedD D ≤ 500000000000) (hp : p.length ≤ 48) (hm : 1 ≤ most ∧ most ≤ 9223372036854775807) :
    Calls Tryz.prog 23 #[qval (room : Int) v, .string (bA p), .int .i64 most] w fun y w' => ∃ v', y = .returned (.tuple #[wval (room : Int) v' p most, .int .i64 (openQ room D p).1]) ∧ qNew w w' v v' D (openQ room D p).2 := by
  obtain ⟨a, c, rfl⟩ := hq.len
  obtain ⟨bx, hbx⟩ : ∃ bx, w.heap.size = bx := ⟨_, rfl⟩
  have hQ : QD D := QD.of hD (by omega) (by omega)
  have h1 : Sat w (qsrc (.slice a D.length c) D (.slice a D.length c) D :: pt (bx + 2) (.cells #[.int .i64 (room : Int), (.slice a D.length c), .string (bA p), .int .i64 most] 58) :: pt (bx + 1) (.cells #[.int .i64 0, .slice none 0 0, .string ⟨#[]⟩, .int .i64 0] 58) :: _ :: []) _ := (((((Sat.start w).alloc' (.cells #[.int .i64 (room : Int), .slice a D.length c] 54) (n := bx) hbx.symm).alloc' (.cells #[.int .i64 0, .slice none 0 0, .string ⟨#[]⟩, .int .i64 0] 58) (n := bx + 1) (by simp [hbx])).alloc' (.cells #[.int .i64 (room : Int), .slice a D.length c, .string (bA p), .int .i64 most] 58) (n := bx + 2) (by simp [hbx])).src_in (.slice a D.length c) D)
  have hzp : (bA p).size = p.length := bA_size p
  have p1 : (p.length : Int) ≤ 48 := by omega
  have p2 : ¬ (p.length : Int) > 48 := by omega
  have m1 : ¬ most < 1 := by omega
  obtain ⟨tm, htm⟩ : ∃ tm, tmpW p = tm := ⟨_, rfl⟩
  have hcat : bA p ++ (⟨#[116, 109, 112]⟩ : ByteArray) = bA tm := by rw [← htm, tmpW, ← bA_app]
  obtain ⟨e1, D1, q1⟩ : ∃ e1 D1, removeD D tm = (e1, D1) := ⟨_, _, rfl⟩
  have er1 : e1 ≠ 0 → D1 = D := fun h => by have := q_remove_err (D := D) (n := tm); rw [q1] at this; exact this h
  have ok1 : DOk room D1 := by have := hD.remove tm; rw [q1] at this; exact this
  have l1 : D1.length ≤ 999000 := by have := len_remove D tm; rw [q1] at this; simp only at this; omega
  have u1 : usedD D1 ≤ 500000000000 := by have := used_remove_le (m := tm) hD; rw [q1] at this; simp only at this; omega
  have hQ1 : QD D1 := QD.of ok1 (by omega) (by omega)
  have cR := fun (w3 : World) (h3 : qR w3 (.slice a D.length c) D) => pqRemove (room := (room : Int)) (w := w3) tm h3 hD.srt (by omega)
  have cF := fun (w3 : World) (v3 : Value) (h3 : qR w3 v3 D1) => pqFiles (w := w3) (v := v3) (room := (room : Int)) (most := most) (p := p) h3 hQ1.len (by omega) hQ1.names
  obtain ⟨l, hl2⟩ : ∃ l, numsW D1 p = l := ⟨_, rfl⟩
  have hop : openQ room D p = goQ room p none false l D1 := by rw [openQ, htm, q1]; simp only [hl2]
  have hin : ∀ n ∈ l, inR n := fun n h => nums_inR (D := D1) (p := p) (by rw [hl2]; exact h)
  have hnl := nums_len hQ1 p
  obtain ⟨n, hn⟩ : ∃ n, l.length = n := ⟨_, rfl⟩
  rw [hl2, hn] at hnl
  simp only [hl2, hn] at cF
  simp only [q1] at cR
  have n1 : (n : Int) ≤ 1000000 := by omega
  rw [hop]
  have Hq := Lib.hid hq
  have Hok1 := Lib.hid ok1
  have Hl1 := Lib.hid l1
  have Hu1 := Lib.hid u1
  have Hn := Lib.hid hn
  have Hin := Lib.hid hin
  have Hp := Lib.hid hp
  clear hq hD hl hu hQ ok1 l1 u1 hQ1 hl2 hop hin hn htm q1
  go_enter Tryz.func23, Tryz.ntmps23
  go_wp2_with fail
  refine (cR _ (h1.src_R Hq.out)).mono ?_
  rintro y w2 ⟨v2, rfl, ho2⟩
  have h2 := h1.src_new (ho2.new er1)
  clear ho2 h1 cR
  obtain ⟨a2, c2, rfl⟩ := (h2.src_R Hq.out).len
  have x0 := h2.swap.pt_cell 0
  have x1 := h2.swap.pt_cell 1
  have x2 := h2.swap.pt_cell 2
  have x3 := h2.swap.pt_cell 3
  have f0 := h2.swap.pt_free 0
  have f1 := h2.swap.pt_free 1
  simp only [List.getElem?_toArray, List.getElem?_cons_zero, List.getElem?_cons_succ] at x0 x1 x2 x3
  go_wp2_with fail
  have h3 := ((h2.swap.set (j := 0) (.int .i64 (room : Int))).set (j := 1) (.slice a2 D1.length c2)).swap
  simp only [List.setIfInBounds_toArray, List.set_cons_zero, List.set_cons_succ] at h3
  generalize (World.setCell _ _ _).setCell _ _ = w3 at h3 ⊢
  clear x0 x1 x2 x3 f0 f1 h2
  refine (cF _ _ (h3.src_R Hq.out)).mono ?_
  rintro y w4 ⟨lv, rfl, hs4⟩
  have h4 := h3.over hs4
  clear h3 hs4 cF
  obtain ⟨la, lc, rfl, _⟩ := h4.row_reads
  have h5 : Sat w (row 35 1 (.slice la n lc) n (u64s l) :: qsrc (.slice a D.length c) D (.slice a2 D1.length c2) D1 :: pt (bx + 2) (.cells #[.int .i64 (room : Int), (.slice a2 D1.length c2), .string (bA p), .int .i64 most] 58) :: pt (bx + 1) (.cells #[.int .i64 0, .slice none 0 0, .string ⟨#[]⟩, .int .i64 0] 58) :: []) w4 := h4.p4.drop
  clear h4
  go_wp2_with fail
  go_loopg [10, 11, 12] (n + 1) (fun gh v10 v11 v12 wr => ∃ (i : Nat) (Di : Fls) (ai : Option Addr) (ci : Nat) (nx : Option Nat) (ends : Bool), i ≤ n ∧ n + 1 ≤ i + gh ∧ v12 = .int .i64 (i : Int) ∧ v11 = .bool ends ∧
    ((i = 0 ∧ ends = false ∧ nx = none ∧ v10 = .int .u64 0) ∨ (0 < i ∧ ∃ k : Nat, nx = some k ∧ v10 = .int .u64 (k : Int))) ∧ DOk room Di ∧ Di.length ≤ 1000000 ∧ (ends = false → Di = D1) ∧
    Hid (goQ room p nx ends (l.drop i) Di = goQ room p none false l D1) ∧
    Sat w (row 35 1 (.slice la n lc) n (u64s l) :: qsrc (.slice a D.length c) D (.slice ai Di.length ci) Di :: pt (bx + 2) (.cells #[.int .i64 (room : Int), .slice ai Di.length ci, .string (bA p), .int .i64 most] 58) :: pt (bx + 1) (.cells #[.int .i64 0, .slice none 0 0, .string ⟨#[]⟩, .int .i64 0] 58) :: []) wr)
  case atStart => exact ⟨0, D1, a2, c2, none, false, by omega, by omega, rfl, rfl, .inl ⟨rfl, rfl, rfl, rfl⟩, Hok1.out, by have := Hl1.out; omega, fun _ => rfl, Lib.hid rfl, h5⟩
  case round =>
    obtain ⟨i, Di, ai, ci, nx, ends, hi1, hi2, rfl, rfl, hnx, oki, li, hend, Hgo, h5'⟩ := hrel
    clear h5
    have h5 := h5'
    clear h5'
    have Hoki := Lib.hid oki
    by_cases hi : i < n
    · obtain ⟨x, hx⟩ : ∃ x, l[i]? = some x := ⟨_, List.getElem?_eq_getElem (by rw [Hn.out]; exact hi)⟩
      have hxr := Hin.out x (List.mem_of_getElem? hx)
      have hdr : l.drop i = x :: l.drop (i + 1) := by
        obtain ⟨hlt, e⟩ := List.getElem?_eq_some_iff.1 hx
        rw [List.drop_eq_getElem_cons hlt, e]
      obtain ⟨g, off, e, hcc⟩ := h5.row_cell i (by omega)
      clear hcc
      cases e
      have i1 : (i : Int) < (n : Int) := by omega
      have hxb : (x : Int) ≤ 1000000000000000 := by have := hxr.2; omega
      have hS : ∀ (w' : World) (L' : List HP), Sat w (row 35 1 (.slice (some ⟨g, off, none⟩) n lc) n (u64s l) :: qsrc (.slice a D.length c) D (.slice ai Di.length ci) Di :: pt (bx + 2) (.cells #[.int .i64 (room : Int), .slice ai Di.length ci, .string (bA p), .int .i64 most] 58) :: L') w' → w'.cell? ⟨g, off + i, none⟩ = some (.int .u64 (x : Int)) ∧ w'.cell? ⟨bx + 2, 0, none⟩ = some (.int .i64 (room : Int)) ∧ w'.cell? ⟨bx + 2, 1, none⟩ = some (.slice ai Di.length ci) ∧ w'.cell? ⟨bx + 2, 2, none⟩ = some (.string (bA p)) ∧ w'.cell? ⟨bx + 2, 3, none⟩ = some (.int .i64 most) := fun w' L' h => by
        obtain ⟨g', off', e, c1, _⟩ := h.row_cell i (by omega)
        cases e
        exact ⟨by rw [c1]; exact u64s_get hx, h.p2.pt_cell 0, h.p2.pt_cell 1, h.p2.pt_cell 2, h.p2.pt_cell 3⟩
      obtain ⟨c9, x0, x1, x2, x3⟩ := hS _ _ h5
      have cN := fun (w3 : World) => pqName (w := w3) p x (by have := hxr.2; omega) (by have := Hp.out; omega)
      obtain ⟨nm, hnm⟩ : ∃ nm, nameW p x = nm := ⟨_, rfl⟩
      rw [hnm] at cN
      have cRm := fun (w3 : World) (h3 : qR w3 (.slice ai Di.length ci) Di) => pqRemove (room := (room : Int)) (w := w3) nm h3 oki.srt li
      obtain ⟨e7, D7, q7⟩ : ∃ e7 D7, removeD Di nm = (e7, D7) := ⟨_, _, rfl⟩
      have er : e7 ≠ 0 → D7 = Di := fun h => by have := q_remove_err (D := Di) (n := nm); rw [q7] at this; exact this h
      have ok7 : DOk room D7 := by have := oki.remove nm; rw [q7] at this; exact this
      have l7 : D7.length ≤ 1000000 := by have := len_remove Di nm; rw [q7] at this; simp only at this; omega
      simp only [q7] at cRm
      go_wp2_with fail
      refine (cN _).mono ?_
      rintro y w6 ⟨rfl, hb6⟩
      have h6 := h5.of_below hb6
      clear c9 x0 x1 x2 x3 h5 hb6
      obtain ⟨c9, x0, x1, x2, x3⟩ := hS _ _ h6
      cases ends with
      | true =>
        rcases hnx with ⟨_, h, _⟩ | ⟨hi0, kx, rfl, rfl⟩
        · cases h
        · have i0 : (i : Int) > 0 := by omega
          have Hnx := Lib.hid (show goQ room p (some kx) true (l.drop (i + 1)) D7 = goQ room p none false l D1 by
            rw [← Hgo.out, hdr, goQ, if_pos (.inl rfl), hnm]; simp only [q7])
          clear hdr hend
          go_wp2_with fail
          refine (cRm _ (h6.swap.src_R Hq.out)).mono ?_
          rintro y w7 ⟨v7, rfl, ho7⟩
          have h7 := h6.swap.src_new (ho7.new er)
          clear ho7 hx c9 x0 x1 x2 x3 h6 cRm
          obtain ⟨a7, c7, rfl⟩ := (h7.src_R Hq.out).len
          have x0 := h7.p2.pt_cell 0
          have x1 := h7.p2.pt_cell 1
          have f0 := h7.p2.pt_free 0
          have f1 := h7.p2.pt_free 1
          simp only [List.getElem?_toArray, List.getElem?_cons_zero, List.getElem?_cons_succ] at x0 x1
          go_wp2_with fail
          have h8 := (h7.p2.set (j := 0) (.int .i64 (room : Int))).set (j := 1) (.slice a7 D7.length c7)
          simp only [List.setIfInBounds_toArray, List.set_cons_zero, List.set_cons_succ] at h8
          generalize (World.setCell _ _ _).setCell _ _ = w8 at h8 ⊢
          go_roundg (gk - 1)
          case measure => omega
          case rel => exact ⟨i + 1, D7, a7, c7, some kx, true, by omega, by omega, by go_num, rfl, .inr ⟨by omega, kx, rfl, rfl⟩, ok7, l7, (fun h => by cases h), Hnx, h8.q2.swap⟩
      | false =>
        have hDi := hend rfl
        subst hDi
        have cRd := fun (w3 : World) (h3 : qR w3 (.slice ai Di.length ci) Di) => pqRead (w := w3) (room := (room : Int)) nm h3 oki.srt li
        obtain ⟨s, hs⟩ : ∃ s, bytesOf nm Di = s := ⟨_, rfl⟩
        have hsl : s.length ≤ 500000000000 := by
          have h1 := (QD.of oki li (by have := Hu1.out; omega)).bytesOf nm
          have h2 := Hu1.out
          rw [← hs]
          unfold Go.Proofs.YtdngjkjoahgelaaGreatDoor.bytesOf
          cases hg : getF nm Di with
          | none => simp
          | some f =>
            obtain ⟨l1, l2, e⟩ := List.append_of_mem (getF_mem hg)
            rw [e, used_mid] at h2
            simp only [Option.map_some, Option.getD_some]; omega
        obtain ⟨er9, her9⟩ : ∃ er9, (readD Di nm).2 = er9 := ⟨_, rfl⟩
        simp only [readD_bytes, hs, her9] at cRd
        have cSc := fun (w3 : World) => pqScan (w := w3) s (by omega)
        obtain ⟨rs, hrs⟩ : ∃ rs, scanB s = rs := ⟨_, rfl⟩
        obtain ⟨gd, hgd⟩ : ∃ gd, goodB rs = gd := ⟨_, rfl⟩
        obtain ⟨k, hk⟩ : ∃ k, rs.length = k := ⟨_, rfl⟩
        have hgl : gd ≤ s.length := by rw [← hgd, ← hrs]; exact (scan_good s.length s (Nat.le_refl _)).1
        have hkl : 8 * k ≤ s.length := by rw [← hk, ← hrs]; exact scan_len_le s
        simp only [hrs, hgd, hk] at cSc
        have hzs : (bA s).size = s.length := bA_size s
        have g1' : (gd : Int) ≤ (s.length : Int) := by omega
        have s1' : (s.length : Int) ≤ 500000000000 := by omega
        have k1' : (k : Int) ≤ 500000000000 := by omega
        have w1 : IntKind.u64.wrap ((x : Int) + (k : Int)) = (x : Int) + (k : Int) := by simp [IntKind.wrap, IntKind.bits, IntKind.signed]; omega
        have w2' : IntKind.u64.wrap (k : Int) = (k : Int) := by simp [IntKind.wrap, IntKind.bits, IntKind.signed]; omega
        have cAn := fun (w3 : World) (h3 : qR w3 (.slice ai Di.length ci) Di) => pqanew (w := w3) (most := most) x (s.take gd) h3 oki (by have := Hl1.out; omega) (by have := Hu1.out; rw [List.length_take]; omega) hxr hp
        have hex : (bA s).extract 0 gd = bA (s.take gd) := ext_take s (gd : Int) gd rfl
        rcases hnx with ⟨hi0, _, rfl, rfl⟩ | ⟨hi0, kx, rfl, rfl⟩
        · have i0 : ¬ (i : Int) > 0 := by omega
          have i0' : ¬ (0 : Int) < (i : Int) := by omega
          have Hi0 := Lib.hid hi0
          clear hi0
          have hgq : goQ room p none false l Di = if gd < s.length then (if (anewQ room Di p x (s.take gd)).1 ≠ 0 then anewQ room Di p x (s.take gd) else goQ room p (some (x + k)) true (l.drop (i + 1)) (anewQ room Di p x (s.take gd)).2) else goQ room p (some (x + k)) false (l.drop (i + 1)) Di := by
            rw [← Hgo.out, hdr, goQ, if_neg (by rintro (h | ⟨h, _⟩); exact absurd h (by simp); exact h rfl), hnm, hs, hrs, hgd, hk]
          have Hgq := Lib.hid hgq
          have HgqS := Lib.hid hS
          have hx10 := hx
          clear hdr hgq hs hrs hgd hk hx hnm her9
          go_wp2_with fail
          refine (cRd _ (h6.swap.src_R Hq.out)).mono ?_
          rintro y w7 ⟨rfl, hb7⟩
          have h7 := h6.of_below hb7
          clear h6 hb7 c9 x0 x1 x2 x3
          go_wp2_with fail
          refine (cSc _).mono ?_
          rintro y w8 ⟨rv, rfl, hs8⟩
          have h8 := h7.over hs8
          obtain ⟨ra, rc, rfl, hrr⟩ := h8.row_reads
          clear hrr
          have h9 := h8.drop
          clear h7 hs8 h8 cSc cRd
          obtain ⟨c9, x0, x1, x2, x3⟩ := hS _ _ h9
          by_cases hbad : gd < s.length
          · have b1 : (gd : Int) < (s.length : Int) := by omega
            obtain ⟨e10, D10, q10⟩ : ∃ e10 D10, anewQ room Di p x (s.take gd) = (e10, D10) := ⟨_, _, rfl⟩
            have ok10 : DOk room D10 := by have := ok_anewQ (s.take gd) oki hxr (p := p); rw [q10] at this; exact this
            have l10 : D10.length ≤ 1000000 := by have := len_anewQ room Di p x (s.take gd) oki; rw [q10] at this; simp only at this; have := Hl1.out; omega
            have hgq := Hgq.out
            rw [if_pos hbad, q10] at hgq
            simp only [q10] at cAn
            simp only at hgq
            have Hg10 := Lib.hid hgq
            have Hx10 := Lib.hid hx10
            have h9d := h9.drew
            have hal := (h9.alloc' (.cells #[.int .i64 0, .slice none 0 0, .string ⟨#[]⟩, .int .i64 0] 58) (n := w8.heap.size) rfl).drew
            obtain ⟨d9, y0, y1, y2, y3⟩ := hS _ _ h9d
            obtain ⟨t9, t0, t1, t2, t3⟩ := hS _ _ hal.drop
            clear hgq q10 Hgq hend oki li hx10
            go_upto_region 18 with (fail)
            go_cut [18, 19] (fun v18 v19 wx => ∃ (b18 : Nat) (a10 : Option Addr) (c10 : Nat), v18 = .pointer (some ⟨b18, 0, none⟩) ∧ v19 = .int .i64 e10 ∧ Sat w (pt b18 (.cells #[.int .i64 (room : Int), .slice a10 D10.length c10, .string (bA p), .int .i64 most] 58) :: qsrc (.slice a D.length c) D (.slice a10 D10.length c10) D10 :: row 35 1 (.slice (some ⟨g, off, none⟩) n lc) n (u64s l) :: pt (bx + 2) (.cells #[.int .i64 (room : Int), .slice ai Di.length ci, .string (bA p), .int .i64 most] 58) :: pt (bx + 1) (.cells #[.int .i64 0, .slice none 0 0, .string ⟨#[]⟩, .int .i64 0] 58) :: []) wx)
            case first =>
              go_region_law (first
                | (go_simp; go_at_call 57; refine (cAn _ (by first | exact h9d.swap.src_R Hq.out | exact hal.p2.src_R Hq.out)).mono ?_; rintro y w10 ⟨v10, rfl, hn10⟩; (first | have h10 := (h9d.swap.src_new hn10) | have h10 := (hal.p2.src_new hn10)); obtain ⟨a10, c10, rfl⟩ := (h10.src_R Hq.out).len; try (have z0 := h10.swap.pt_cell 0; have z1 := h10.swap.pt_cell 1; have z2 := h10.swap.pt_cell 2; have z3 := h10.swap.pt_cell 3; have g0 := h10.swap.pt_free 0; have g1 := h10.swap.pt_free 1; have g2 := h10.swap.pt_free 2; have g3 := h10.swap.pt_free 3; simp only [List.getElem?_toArray, List.getElem?_cons_zero, List.getElem?_cons_succ] at z0 z1 z2 z3)))
              all_goals
                go_wp2_with fail
                go_meet
                first
                  | exact ⟨_, a10, c10, rfl, rfl, h10.alloc' (.cells #[.int .i64 (room : Int), .slice a10 D10.length c10, .string (bA p), .int .i64 most] 58) rfl⟩
                  | (refine ⟨_, a10, c10, rfl, rfl, ?_⟩
                     have h11 := (((h10.swap.set (j := 0) (.int .i64 (room : Int))).set (j := 1) (.slice a10 D10.length c10)).set (j := 2) (.string (bA p))).set (j := 3) (.int .i64 most)
                     simp only [List.setIfInBounds_toArray, List.set_cons_zero, List.set_cons_succ] at h11
                     exact h11)
            case rest =>
              obtain ⟨b18, a10, c10, rfl, rfl, h11⟩ := hcut
              clear h9 h9d hal cAn
              have x0 := h11.pt_cell 0
              have x1 := h11.pt_cell 1
              have x2 := h11.pt_cell 2
              have x3 := h11.pt_cell 3
              simp only [List.getElem?_toArray, List.getElem?_cons_zero, List.getElem?_cons_succ] at x0 x1 x2 x3
              by_cases he : e10 = 0
              · subst he
                have Hnx := Lib.hid (show goQ room p (some (x + k)) true (l.drop (i + 1)) D10 = goQ room p none false l Di by rw [Hg10.out, if_neg (by simp)])
                have z0 := h11.p3.pt_cell 0
                have z1 := h11.p3.pt_cell 1
                have z2 := h11.p3.pt_cell 2
                have z3 := h11.p3.pt_cell 3
                have g0 := h11.p3.pt_free 0
                have g1 := h11.p3.pt_free 1
                have g2 := h11.p3.pt_free 2
                have g3 := h11.p3.pt_free 3
                simp only [List.getElem?_toArray, List.getElem?_cons_zero, List.getElem?_cons_succ] at z0 z1 z2 z3
                go_step
                go_upto_region 23 with (fail)
                have h12 := (((h11.p3.set (j := 0) (.int .i64 (room : Int))).set (j := 1) (.slice a10 D10.length c10)).set (j := 2) (.string (bA p))).set (j := 3) (.int .i64 most)
                simp only [List.setIfInBounds_toArray, List.set_cons_zero, List.set_cons_succ] at h12
                generalize World.setCell (World.setCell (World.setCell (World.setCell _ _ _) _ _) _ _) _ _ = w12 at h12 ⊢
                have h13 := h12.swap.drop.q2.swap
                have c9' : w12.cell? ⟨g, off + i, none⟩ = some (.int .u64 (x : Int)) := by
                  obtain ⟨g', off', e, c1, _⟩ := h13.row_cell i (by omega)
                  cases e
                  rw [c1]; exact u64s_get Hx10.out
                clear x0 x1 x2 x3 z0 z1 z2 z3 g0 g1 g2 g3 h11 h12 hS
                go_wp2_with fail
                go_roundg (gk - 1)
                case measure => omega
                case rel => exact ⟨i + 1, D10, a10, c10, some (x + k), true, by omega, by omega, by go_num, rfl, .inr ⟨by omega, x + k, rfl, by go_num⟩, ok10, l10, (fun h => by cases h), Hnx, h13⟩
              · have Hres := Lib.hid (show goQ room p none false l Di = (e10, D10) by rw [Hg10.out, if_pos he])
                have hne : (e10 == 0) = false := by simpa using he
                have hne' : (e10 != 0) = true := by simpa using he
                have z0 := h11.p4.pt_cell 0
                have z1 := h11.p4.pt_cell 1
                have z2 := h11.p4.pt_cell 2
                have z3 := h11.p4.pt_cell 3
                have g0 := h11.p4.pt_free 0
                have g1 := h11.p4.pt_free 1
                have g2 := h11.p4.pt_free 2
                have g3 := h11.p4.pt_free 3
                simp only [List.getElem?_toArray, List.getElem?_cons_zero, List.getElem?_cons_succ] at z0 z1 z2 z3
                go_step
                go_wp2_with fail
                have h12 := (((h11.p4.set (j := 0) (.int .i64 (room : Int))).set (j := 1) (.slice a10 D10.length c10)).set (j := 2) (.string (bA p))).set (j := 3) (.int .i64 most)
                generalize World.setCell (World.setCell (World.setCell (World.setCell _ _ _) _ _) _ _) _ _ = wz at h12 ⊢
                have k0 := h12.pt_cell 0
                have k1 := h12.pt_cell 1
                have k2 := h12.pt_cell 2
                have k3 := h12.pt_cell 3
                simp only [List.setIfInBounds_toArray, List.set_cons_zero, List.set_cons_succ, List.getElem?_toArray, List.getElem?_cons_zero, List.getElem?_cons_succ] at k0 k1 k2 k3
                refine bodyPost_ret (v := .tuple #[wval (room : Int) (.slice a10 D10.length c10) p most, .int .i64 e10]) (by simp [results, Tryz.results23, go_sem, k0, k1, k2, k3]) rfl ?_
                rw [Hres.out]
                exact ⟨_, rfl, (h12.drop.drop.swap.drop.swap.drop).src_out⟩
          · have b1 : ¬ (gd : Int) < (s.length : Int) := by omega
            have Hnx := Lib.hid (show goQ room p (some (x + k)) false (l.drop (i + 1)) Di = goQ room p none false l Di by rw [Hgq.out, if_neg hbad])
            clear hS
            go_wp2_with fail
            go_roundg (gk - 1)
            case measure => omega
            case rel => exact ⟨i + 1, Di, ai, ci, some (x + k), false, by omega, by omega, by go_num, rfl, .inr ⟨by omega, x + k, rfl, by go_num⟩, oki, li, (fun _ => rfl), Hnx, h9⟩
        · have i0 : (i : Int) > 0 := by omega
          have i0' : (0 : Int) < (i : Int) := by omega
          by_cases hkx : x = kx
          · subst hkx
            have hgq : goQ room p none false l Di = if gd < s.length then (if (anewQ room Di p x (s.take gd)).1 ≠ 0 then anewQ room Di p x (s.take gd) else goQ room p (some (x + k)) true (l.drop (i + 1)) (anewQ room Di p x (s.take gd)).2) else goQ room p (some (x + k)) false (l.drop (i + 1)) Di := by
              rw [← Hgo.out, hdr, goQ, if_neg (by rintro (h | ⟨_, h⟩); exact absurd h (by simp); exact h rfl), hnm, hs, hrs, hgd, hk]
            have Hgq := Lib.hid hgq
            have HgqS := Lib.hid hS
            have hx10 := hx
            clear hdr hgq hs hrs hgd hk hx hnm her9
            go_wp2_with fail
            refine (cRd _ (h6.swap.src_R Hq.out)).mono ?_
            rintro y w7 ⟨rfl, hb7⟩
            have h7 := h6.of_below hb7
            clear h6 hb7 c9 x0 x1 x2 x3
            go_wp2_with fail
            refine (cSc _).mono ?_
            rintro y w8 ⟨rv, rfl, hs8⟩
            have h8 := h7.over hs8
            obtain ⟨ra, rc, rfl, hrr⟩ := h8.row_reads
            clear hrr
            have h9 := h8.drop
            clear h7 hs8 h8 cSc cRd
            obtain ⟨c9, x0, x1, x2, x3⟩ := hS _ _ h9
            by_cases hbad : gd < s.length
            · have b1 : (gd : Int) < (s.length : Int) := by omega
              obtain ⟨e10, D10, q10⟩ : ∃ e10 D10, anewQ room Di p x (s.take gd) = (e10, D10) := ⟨_, _, rfl⟩
              have ok10 : DOk room D10 := by have := ok_anewQ (s.take gd) oki hxr (p := p); rw [q10] at this; exact this
              have l10 : D10.length ≤ 1000000 := by have := len_anewQ room Di p x (s.take gd) oki; rw [q10] at this; simp only at this; have := Hl1.out; omega
              have hgq := Hgq.out
              rw [if_pos hbad, q10] at hgq
              simp only [q10] at cAn
              simp only at hgq
              have Hg10 := Lib.hid hgq
              have Hx10 := Lib.hid hx10
              have h9d := h9.drew
              have hal := (h9.alloc' (.cells #[.int .i64 0, .slice none 0 0, .string ⟨#[]⟩, .int .i64 0] 58) (n := w8.heap.size) rfl).drew
              obtain ⟨d9, y0, y1, y2, y3⟩ := hS _ _ h9d
              obtain ⟨t9, t0, t1, t2, t3⟩ := hS _ _ hal.drop
              clear hgq q10 Hgq hend oki li hx10
              go_upto_region 18 with (fail)
              go_cut [18, 19] (fun v18 v19 wx => ∃ (b18 : Nat) (a10 : Option Addr) (c10 : Nat), v18 = .pointer (some ⟨b18, 0, none⟩) ∧ v19 = .int .i64 e10 ∧ Sat w (pt b18 (.cells #[.int .i64 (room : Int), .slice a10 D10.length c10, .string (bA p), .int .i64 most] 58) :: qsrc (.slice a D.length c) D (.slice a10 D10.length c10) D10 :: row 35 1 (.slice (some ⟨g, off, none⟩) n lc) n (u64s l) :: pt (bx + 2) (.cells #[.int .i64 (room : Int), .slice ai Di.length ci, .string (bA p), .int .i64 most] 58) :: pt (bx + 1) (.cells #[.int .i64 0, .slice none 0 0, .string ⟨#[]⟩, .int .i64 0] 58) :: []) wx)
              case first =>
                go_region_law (first
                  | (go_simp; go_at_call 57; refine (cAn _ (by first | exact h9d.swap.src_R Hq.out | exact hal.p2.src_R Hq.out)).mono ?_; rintro y w10 ⟨v10, rfl, hn10⟩; (first | have h10 := (h9d.swap.src_new hn10) | have h10 := (hal.p2.src_new hn10)); obtain ⟨a10, c10, rfl⟩ := (h10.src_R Hq.out).len; try (have z0 := h10.swap.pt_cell 0; have z1 := h10.swap.pt_cell 1; have z2 := h10.swap.pt_cell 2; have z3 := h10.swap.pt_cell 3; have g0 := h10.swap.pt_free 0; have g1 := h10.swap.pt_free 1; have g2 := h10.swap.pt_free 2; have g3 := h10.swap.pt_free 3; simp only [List.getElem?_toArray, List.getElem?_cons_zero, List.getElem?_cons_succ] at z0 z1 z2 z3)))
                all_goals
                  go_wp2_with fail
                  go_meet
                  first
                    | exact ⟨_, a10, c10, rfl, rfl, h10.alloc' (.cells #[.int .i64 (room : Int), .slice a10 D10.length c10, .string (bA p), .int .i64 most] 58) rfl⟩
                    | (refine ⟨_, a10, c10, rfl, rfl, ?_⟩
                       have h11 := (((h10.swap.set (j := 0) (.int .i64 (room : Int))).set (j := 1) (.slice a10 D10.length c10)).set (j := 2) (.string (bA p))).set (j := 3) (.int .i64 most)
                       simp only [List.setIfInBounds_toArray, List.set_cons_zero, List.set_cons_succ] at h11
                       exact h11)
              case rest =>
                obtain ⟨b18, a10, c10, rfl, rfl, h11⟩ := hcut
                clear h9 h9d hal cAn
                have x0 := h11.pt_cell 0
                have x1 := h11.pt_cell 1
                have x2 := h11.pt_cell 2
                have x3 := h11.pt_cell 3
                simp only [List.getElem?_toArray, List.getElem?_cons_zero, List.getElem?_cons_succ] at x0 x1 x2 x3
                by_cases he : e10 = 0
                · subst he
                  have Hnx := Lib.hid (show goQ room p (some (x + k)) true (l.drop (i + 1)) D10 = goQ room p none false l Di by rw [Hg10.out, if_neg (by simp)])
                  have z0 := h11.p3.pt_cell 0
                  have z1 := h11.p3.pt_cell 1
                  have z2 := h11.p3.pt_cell 2
                  have z3 := h11.p3.pt_cell 3
                  have g0 := h11.p3.pt_free 0
                  have g1 := h11.p3.pt_free 1
                  have g2 := h11.p3.pt_free 2
                  have g3 := h11.p3.pt_free 3
                  simp only [List.getElem?_toArray, List.getElem?_cons_zero, List.getElem?_cons_succ] at z0 z1 z2 z3
                  go_step
                  go_upto_region 23 with (fail)
                  have h12 := (((h11.p3.set (j := 0) (.int .i64 (room : Int))).set (j := 1) (.slice a10 D10.length c10)).set (j := 2) (.string (bA p))).set (j := 3) (.int .i64 most)
                  simp only [List.setIfInBounds_toArray, List.set_cons_zero, List.set_cons_succ] at h12
                  generalize World.setCell (World.setCell (World.setCell (World.setCell _ _ _) _ _) _ _) _ _ = w12 at h12 ⊢
                  have h13 := h12.swap.drop.q2.swap
                  have c9' : w12.cell? ⟨g, off + i, none⟩ = some (.int .u64 (x : Int)) := by
                    obtain ⟨g', off', e, c1, _⟩ := h13.row_cell i (by omega)
                    cases e
                    rw [c1]; exact u64s_get Hx10.out
                  clear x0 x1 x2 x3 z0 z1 z2 z3 g0 g1 g2 g3 h11 h12 hS
                  go_wp2_with fail
                  go_roundg (gk - 1)
                  case measure => omega
                  case rel => exact ⟨i + 1, D10, a10, c10, some (x + k), true, by omega, by omega, by go_num, rfl, .inr ⟨by omega, x + k, rfl, by go_num⟩, ok10, l10, (fun h => by cases h), Hnx, h13⟩
                · have Hres := Lib.hid (show goQ room p none false l Di = (e10, D10) by rw [Hg10.out, if_pos he])
                  have hne : (e10 == 0) = false := by simpa using he
                  have hne' : (e10 != 0) = true := by simpa using he
                  have z0 := h11.p4.pt_cell 0
                  have z1 := h11.p4.pt_cell 1
                  have z2 := h11.p4.pt_cell 2
                  have z3 := h11.p4.pt_cell 3
                  have g0 := h11.p4.pt_free 0
                  have g1 := h11.p4.pt_free 1
                  have g2 := h11.p4.pt_free 2
                  have g3 := h11.p4.pt_free 3
                  simp only [List.getElem?_toArray, List.getElem?_cons_zero, List.getElem?_cons_succ] at z0 z1 z2 z3
                  go_step
                  go_wp2_with fail
                  have h12 := (((h11.p4.set (j := 0) (.int .i64 (room : Int))).set (j := 1) (.slice a10 D10.length c10)).set (j := 2) (.string (bA p))).set (j := 3) (.int .i64 most)
                  generalize World.setCell (World.setCell (World.setCell (World.setCell _ _ _) _ _) _ _) _ _ = wz at h12 ⊢
                  have k0 := h12.pt_cell 0
                  have k1 := h12.pt_cell 1
                  have k2 := h12.pt_cell 2
                  have k3 := h12.pt_cell 3
                  simp only [List.setIfInBounds_toArray, List.set_cons_zero, List.set_cons_succ, List.getElem?_toArray, List.getElem?_cons_zero, List.getElem?_cons_succ] at k0 k1 k2 k3
                  refine bodyPost_ret (v := .tuple #[wval (room : Int) (.slice a10 D10.length c10) p most, .int .i64 e10]) (by simp [results, Tryz.results23, go_sem, k0, k1, k2, k3]) rfl ?_
                  rw [Hres.out]
                  exact ⟨_, rfl, (h12.drop.drop.swap.drop.swap.drop).src_out⟩
            · have b1 : ¬ (gd : Int) < (s.length : Int) := by omega
              have Hnx := Lib.hid (show goQ room p (some (x + k)) false (l.drop (i + 1)) Di = goQ room p none false l Di by rw [Hgq.out, if_neg hbad])
              clear hS
              go_wp2_with fail
              go_roundg (gk - 1)
              case measure => omega
              case rel => exact ⟨i + 1, Di, ai, ci, some (x + k), false, by omega, by omega, by go_num, rfl, .inr ⟨by omega, x + k, rfl, by go_num⟩, oki, li, (fun _ => rfl), Hnx, h9⟩
          · have b1 : ((x : Int) == (kx : Int)) = false := by simpa using fun h => hkx (by omega)
            have b2 : ((x : Int) != (kx : Int)) = true := by simpa using fun h => hkx (by omega)
            have b3 : ¬ (x : Int) = (kx : Int) := by omega
            clear cRd cSc cAn hex
            have Hnx := Lib.hid (show goQ room p (some kx) true (l.drop (i + 1)) D7 = goQ room p none false l Di by
              rw [← Hgo.out, hdr, goQ, if_pos (.inr ⟨by simp, by simpa using fun h => hkx h.symm⟩), hnm]; simp only [q7])
            clear hdr hend
            go_wp2_with fail
            refine (cRm _ (h6.swap.src_R Hq.out)).mono ?_
            rintro y w7 ⟨v7, rfl, ho7⟩
            have h7 := h6.swap.src_new (ho7.new er)
            clear ho7 hx c9 x0 x1 x2 x3 h6 cRm
            obtain ⟨a7, c7, rfl⟩ := (h7.src_R Hq.out).len
            have x0 := h7.p2.pt_cell 0
            have x1 := h7.p2.pt_cell 1
            have f0 := h7.p2.pt_free 0
            have f1 := h7.p2.pt_free 1
            simp only [List.getElem?_toArray, List.getElem?_cons_zero, List.getElem?_cons_succ] at x0 x1
            go_wp2_with fail
            have h8 := (h7.p2.set (j := 0) (.int .i64 (room : Int))).set (j := 1) (.slice a7 D7.length c7)
            simp only [List.setIfInBounds_toArray, List.set_cons_zero, List.set_cons_succ] at h8
            generalize (World.setCell _ _ _).setCell _ _ = w8 at h8 ⊢
            go_roundg (gk - 1)
            case measure => omega
            case rel => exact ⟨i + 1, D7, a7, c7, some kx, true, by omega, by omega, by go_num, rfl, .inr ⟨by omega, kx, rfl, rfl⟩, ok7, l7, (fun h => by cases h), Hnx, h8.q2.swap⟩
    · obtain rfl : i = n := by omega
      have hni : ¬ (i : Int) < (i : Int) := by omega
      have Hres := Lib.hid (show goQ room p none false l D1 = (0, Di) by rw [← Hgo.out, List.drop_of_length_le (by rw [Hn.out]; exact Nat.le_refl _)]; cases nx <;> rfl)
      clear hend hnx
      have x0 := h5.p2.pt_cell 0
      have x1 := h5.p2.pt_cell 1
      have x2 := h5.p2.pt_cell 2
      have x3 := h5.p2.pt_cell 3
      simp only [List.getElem?_toArray, List.getElem?_cons_zero, List.getElem?_cons_succ] at x0 x1 x2 x3
      have z0 := h5.p3.pt_cell 0
      have z1 := h5.p3.pt_cell 1
      have z2 := h5.p3.pt_cell 2
      have z3 := h5.p3.pt_cell 3
      have g0 := h5.p3.pt_free 0
      have g1 := h5.p3.pt_free 1
      have g2 := h5.p3.pt_free 2
      have g3 := h5.p3.pt_free 3
      simp only [List.getElem?_toArray, List.getElem?_cons_zero, List.getElem?_cons_succ] at z0 z1 z2 z3
      go_wp2_with fail
      have h12 := (((h5.p3.set (j := 0) (.int .i64 (room : Int))).set (j := 1) (.slice ai Di.length ci)).set (j := 2) (.string (bA p))).set (j := 3) (.int .i64 most)
      generalize World.setCell (World.setCell (World.setCell (World.setCell _ _ _) _ _) _ _) _ _ = wz at h12 ⊢
      have k0 := h12.pt_cell 0
      have k1 := h12.pt_cell 1
      have k2 := h12.pt_cell 2
      have k3 := h12.pt_cell 3
      simp only [List.setIfInBounds_toArray, List.set_cons_zero, List.set_cons_succ, List.getElem?_toArray, List.getElem?_cons_zero, List.getElem?_cons_succ] at k0 k1 k2 k3
      refine bodyPost_ret (v := .tuple #[wval (room : Int) (.slice ai Di.length ci) p most, .int .i64 0]) (by simp [results, Tryz.results23, go_sem, k0, k1, k2, k3]) rfl ?_
      rw [Hres.out]
      exact ⟨_, rfl, (h12.drop.drop.swap.drop).src_out⟩
end
end Go.Proofs.YtdngjkjoahgelaaGreatDoor
