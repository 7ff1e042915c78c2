/-
  disk: Crash.
-/
import Derived.Test.YtdngjkjoahgelaaGreatDoorDk6
namespace Go.Proofs.YtdngjkjoahgelaaGreatDoor
set_option linter.all false
set_option maxRecDepth 100000
set_option maxHeartbeats 2000000
open Go.RowKit
/-- A disk of which the first k files have been through the crash. -/
def crashK (keep : List Int) (k : Nat) (D : Fls) : Fls := D.mapIdx fun i f => if i < k then crashF keep[i]? f else f
theorem crashK_get (keep : List Int) (k : Nat) (D : Fls) (i : Nat) : (crashK keep k D)[i]? = (D[i]?).map fun f => if i < k then crashF keep[i]? f else f := by
  rw [crashK, List.getElem?_mapIdx]
theorem crashK_zero (keep : List Int) (D : Fls) : crashK keep 0 D = D := by
  apply List.ext_getElem?
  intro i
  rw [crashK_get]
  cases D[i]? <;> simp
theorem crashK_len (keep : List Int) (k : Nat) (D : Fls) : (crashK keep k D).length = D.length := by simp [crashK]
theorem crashK_all (keep : List Int) (D : Fls) {k : Nat} (hk : D.length ≤ k) : crashK keep k D = crashD keep 0 D := by
  apply List.ext_getElem?
  intro i
  rw [crashK_get, crashD_get, Nat.zero_add]
  by_cases hi : i < D.length
  · rw [List.getElem?_eq_getElem hi, Option.map_some, Option.map_some, if_pos (by omega)]
  · rw [List.getElem?_eq_none (Nat.le_of_not_lt hi)]; rfl
theorem crashK_succ (keep : List Int) (k : Nat) (D : Fls) {f : Fl} (hf : D[k]? = some f) : crashK keep (k + 1) D = (crashK keep k D).set k (crashF keep[k]? f) := by
  apply List.ext_getElem?
  intro i
  rw [List.getElem?_set, crashK_get, crashK_get]
  have hk : k < D.length := (List.getElem?_eq_some_iff.1 hf).1
  rw [crashK_len]
  by_cases hik : k = i
  · subst hik
    rw [if_pos rfl, if_pos hk, hf, Option.map_some, if_pos (by omega)]
  · rw [if_neg hik]
    congr 1
    funext g
    by_cases h1 : i < k
    · rw [if_pos (by omega), if_pos h1]
    · rw [if_neg (by omega), if_neg h1]
theorem used_set {D : Fls} {k : Nat} {f g : Fl} (hf : D[k]? = some f) : usedD (D.set k g) + f.bytes.length = usedD D + g.bytes.length := by
  obtain ⟨hk, e⟩ := List.getElem?_eq_some_iff.1 hf
  have h1 : D = D.take k ++ f :: D.drop (k + 1) := by rw [← e]; simp
  have h2 : D.set k g = D.take k ++ g :: D.drop (k + 1) := by rw [List.set_eq_take_append_cons_drop, if_pos hk]
  rw [h2]
  conv => rhs; rw [h1]
  rw [used_mid, used_mid]; omega
/-- How '%' and the sign's turn make what is left. -/
theorem left_mod (x : Int) (u : Nat) : ∃ t : Int, x.tmod ((u : Int) + 1) = t ∧ -(u : Int) ≤ t ∧ t ≤ u ∧ (0 ≤ t → (leftOf (some x) u : Int) = t) ∧ (t < 0 → (leftOf (some x) u : Int) = t + ((u : Int) + 1)) := by
  refine ⟨_, rfl, ?_⟩
  have h1 := Int.emod_nonneg x (b := (u : Int) + 1) (by omega)
  have h2 := Int.emod_lt_of_pos x (b := (u : Int) + 1) (by omega)
  have e : (leftOf (some x) u : Int) = x % ((u : Int) + 1) := by
    show (((x % ((u : Int) + 1)).toNat : Nat) : Int) = _
    omega
  rw [e]
  have h3 := Int.tmod_eq_emod (a := x) (b := (u : Int) + 1)
  by_cases hc : 0 ≤ x ∨ ((u : Int) + 1) ∣ x
  · rw [if_pos hc] at h3
    omega
  · rw [if_neg hc] at h3
    have h4 : (((u : Int) + 1).natAbs : Int) = (u : Int) + 1 := by omega
    rw [h4] at h3
    have h5 : x % ((u : Int) + 1) ≠ 0 := fun h => hc (.inr (Int.dvd_of_emod_eq_zero h))
    omega
theorem crash_step {keep : List Int} {k a : Nat} {D : Fls} {E1 E2 : List (Nat × Fl)} {f : Fl} (hf : D[k]? = some f) (hF : (E1 ++ (a, f) :: E2).map (·.2) = crashK keep k D) (hset : ∀ g, (E1 ++ (a, f) :: E2).set k (a, g) = E1 ++ (a, g) :: E2) :
    (E1 ++ (a, crashF keep[k]? f) :: E2).map (·.2) = crashK keep (k + 1) D := by
  rw [← hset, List.map_set, hF, crashK_succ keep k D hf]
theorem crash_used {keep : List Int} {k u : Nat} {D : Fls} {f : Fl} (hf : D[k]? = some f) (hsy : f.synced ≤ f.bytes.length) (hu : f.bytes.length - f.synced = u) :
    ((usedD (crashK keep (k + 1) D) : Nat) : Int) = (usedD (crashK keep k D) : Int) - ((u : Int) - (leftOf keep[k]? u : Int)) := by
  have h1 := used_set (g := crashF keep[k]? f) (D := crashK keep k D) (k := k) (f := f) (by rw [crashK_get, hf]; simp)
  rw [← crashK_succ keep k D hf, crashF_len hsy, hu] at h1
  omega
theorem ext_take (b : Bt) (z : Int) (q : Nat) (h : z = (q : Int)) : (bA b).extract 0 z.toNat = bA (b.take q) := by
  apply ByteArray.ext
  rw [ByteArray.data_extract, h]
  simp
theorem ext_take0 (b : Bt) (n q : Nat) (h : q = 0) : (bA b).extract 0 n = bA (b.take (n + q)) := by
  subst h
  apply ByteArray.ext
  rw [ByteArray.data_extract]
  simp
def ints64 (l : List Int) : List Value := l.map (Value.int .i64)
section
variable {B w w' : World} {L M : List HP} {p room mb a b u : Nat} {D : Fls} {E E1 E2 : List (Nat × Fl)} {f g : Fl} {n m : Bt}
/-- 'Crash'. -/
theorem pdCrash {kv : Value} (keep : List Int) (hk : ∀ (X : HP) (w' : World), Sat B (X :: L) w' → reads w' kv keep.length (ints64 keep)) (h : Sat B (disk p room D :: L) w) (hlen : D.length ≤ 1000000) (hub : usedD D ≤ 9223372036854775806) :
    Calls Tryz.prog 12 #[.pointer (some ⟨p, 0, none⟩), kv] w fun y w' => y = .returned (.tuple #[]) ∧ Sat B (disk p room (crashD keep 0 D) :: L) w' := by
  have hli := pdList [] h hlen
  have hok0 := disk_ok h
  have hno : listD D [] = D.map (·.name) := by simp [listD]
  rw [hno, List.length_map] at hli
  obtain ⟨ka, kc, rfl, hkn⟩ : ∃ ka kc, kv = .slice ka keep.length kc ∧ keep.length ≤ 9223372036854775807 := by
    obtain ⟨ka, kc, e, h1, h2, h3, _⟩ := hk _ _ h
    exact ⟨ka, kc, e, by unfold maxLen at h3; omega⟩
  have Hk := Lib.hid hk
  have Hok := Lib.hid hok0
  have hUrr : ∀ k, usedD (crashK keep k D) ≤ 9223372036854775806 := fun k => by
    have h1 : ∀ k, usedD (crashK keep k D) ≤ usedD D := fun k => by
      induction k with
      | zero => rw [crashK_zero]; exact Nat.le_refl _
      | succ k ih =>
        by_cases hk : k < D.length
        · obtain ⟨f, hf⟩ : ∃ f, D[k]? = some f := ⟨_, List.getElem?_eq_getElem hk⟩
          rw [crashK_succ keep k D hf]
          have h2 := used_set (g := crashF keep[k]? f) (D := crashK keep k D) (k := k) (f := f) (by rw [crashK_get, hf]; simp)
          have h3 := crashF_len (k := keep[k]?) (hok0.sync f (List.mem_of_getElem? hf))
          have h4 := leftOf_le keep[k]? (f.bytes.length - f.synced)
          have h5 := hok0.sync f (List.mem_of_getElem? hf)
          omega
        · rw [crashK_all keep D (k := k + 1) (by omega), ← crashK_all keep D (k := k) (by omega)]; exact ih
    have h4 := h1 k; omega
  have HUr := Lib.hid hUrr
  clear hUrr
  clear hk h hno
  go_enter Tryz.func12, Tryz.ntmps12
  go_wp2_with fail
  refine hli.mono ?_
  rintro y w1 ⟨v, rfl, h1⟩
  obtain ⟨na, nc, rfl, hnn⟩ : ∃ na nc, v = .slice na D.length nc ∧ D.length ≤ 9223372036854775807 := by
    obtain ⟨na, nc, e, h2, h3, h4, _⟩ := h1.row_reads
    exact ⟨na, nc, e, by omega⟩
  obtain ⟨mb, E, hE, _, h2⟩ := disk_open h1.swap
  have HE := Lib.hid hE
  have h3 : Sat B (row 9 1 (.slice na D.length nc) D.length (strB (D.map (·.name))) :: pt p (dkC room (usedD (crashK keep 0 D)) mb) :: smap mb (kvE E) :: stars (E.map flP) :: L) w1 := by rw [crashK_zero]; exact h2.p3
  have hE0 : E.map (·.2) = crashK keep 0 D := by rw [crashK_zero]; exact hE
  clear h1 h2 hli hok0 hE
  go_wp2_with fail
  go_loopg [12] (D.length + 1) (fun gh v12 wr => ∃ (k : Nat) (F : List (Nat × Fl)), k ≤ D.length ∧ D.length + 1 ≤ k + gh ∧ v12 = .int .i64 (k : Int) ∧ F.map (·.2) = crashK keep k D ∧ kvE F = kvE E ∧
    Sat B (row 9 1 (.slice na D.length nc) D.length (strB (D.map (·.name))) :: pt p (dkC room (usedD (crashK keep k D)) mb) :: smap mb (kvE E) :: stars (F.map flP) :: L) wr)
  case atStart => exact ⟨0, E, by omega, by omega, rfl, hE0, rfl, h3⟩
  case round =>
    obtain ⟨k, F, hk1, hk2, rfl, hF, hkF, hS⟩ := hrel
    clear h3 hE0
    by_cases hlt : k < D.length
    · have b1 : (k : Int) < (D.length : Int) := by omega
      obtain ⟨f, hf⟩ : ∃ f, D[k]? = some f := ⟨_, List.getElem?_eq_getElem hlt⟩
      have hFk : (crashK keep k D)[k]? = some f := by rw [crashK_get, hf]; simp
      obtain ⟨x, hx, hxf⟩ : ∃ x, F[k]? = some x ∧ x.2 = f := by
        rw [← hF, List.getElem?_map] at hFk
        obtain ⟨x, hx, e⟩ := Option.map_eq_some_iff.1 hFk
        exact ⟨x, hx, e⟩
      obtain ⟨a, f'⟩ := x
      simp only at hxf
      subst hxf
      obtain ⟨hkl, hxe⟩ := List.getElem?_eq_some_iff.1 hx
      have hFsp : F = F.take k ++ (a, f') :: F.drop (k + 1) := by rw [← hxe]; simp
      obtain ⟨E1, E2, hE12⟩ : ∃ E1 E2, F = E1 ++ (a, f') :: E2 ∧ ∀ g, F.set k (a, g) = E1 ++ (a, g) :: E2 := ⟨_, _, hFsp, fun g => by rw [List.set_eq_take_append_cons_drop, if_pos hkl]⟩
      obtain ⟨rfl, hset⟩ := hE12
      -- the facts of the walk
      obtain ⟨g0, o0, e0, cN0, _⟩ := hS.row_cell k (by omega)
      subst e0
      have cN : wr.cell? ⟨g0, o0 + k, none⟩ = some (.string (bA f'.name)) := by rw [cN0]; exact strB_get (by rw [List.getElem?_map, hf]; rfl)
      clear cN0
      have h4 := hS.p2
      have hkv : (f'.name, Value.pointer (some ⟨a, 0, none⟩)) ∈ kvE E := by rw [← hkF]; exact kv_mem (by simp)
      have hmem := List.mem_of_getElem? hf
      have hsy := Hok.out.sync f' hmem
      have hlf : f'.bytes.length ≤ 9223372036854775807 := by
        have h5 := Hok.out.used; have h6 := Hok.out.room
        obtain ⟨l1, l2, e⟩ := List.append_of_mem hmem
        rw [e, used_mid] at h5; omega
      have h5 := file_out hS.q3
      have hs := bA_size f'.bytes
      have c2 : wr.cell? ⟨p, 2, none⟩ = some (.map (some mb)) := hS.swap.pt_cell 2
      have c1 : wr.cell? ⟨p, 1, none⟩ = some (.int .i64 (usedD (crashK keep k D) : Int)) := hS.swap.pt_cell 1
      have f1 := hS.swap.pt_free 1
      have a0 : wr.cell? ⟨a, 0, none⟩ = some (.string (bA f'.bytes)) := h5.pt_cell 0
      have a1 : wr.cell? ⟨a, 1, none⟩ = some (.int .i64 (f'.synced : Int)) := h5.pt_cell 1
      have af := h5.pt_free
      have hrk := Hk.out _ _ (Sat.fold (L := [_, _, _, _]) hS)
      obtain ⟨u, hu⟩ : ∃ u, f'.bytes.length - f'.synced = u := ⟨_, rfl⟩
      have hui : ((f'.bytes.length : Int) - (f'.synced : Int)) = (u : Int) := by omega
      have Hset := Lib.hid hset
      have HF := Lib.hid hF
      have HkF := Lib.hid hkF
      have Hf := Lib.hid hf
      have HFk := Lib.hid hFk
      have Hu := Lib.hid hu
      obtain ⟨U, hU⟩ : ∃ U, usedD (crashK keep k D) = U := ⟨_, rfl⟩
      have hUb : f'.bytes.length ≤ U := by
        obtain ⟨l1, l2, e⟩ := List.append_of_mem (List.mem_of_getElem? hFk)
        rw [e, used_mid] at hU; omega
      have hUr : U ≤ 9223372036854775806 := by
        have := HUr.out k; rw [hU] at this; exact this
      obtain ⟨Z, ul2, ul3⟩ : ∃ Z : Nat, (u : Int) < (Z : Int) ∧ (Z : Int) ≤ 9223372036854775807 := ⟨u + 1, by omega, by omega⟩
      have huU : (u : Int) ≤ (U : Int) := by omega
      have hsul : (f'.synced : Int) + (u : Int) ≤ (f'.bytes.length : Int) := by omega
      rw [hU] at c1 h5 h4 hS
      have HU := Lib.hid hU
      clear hU
      clear hset hF hkF hf hFk hx hkl hxe hFsp hmem hu
      by_cases hkk : k < keep.length
      · have b2 : (k : Int) < (keep.length : Int) := by omega
        obtain ⟨x, hx⟩ : ∃ x, keep[k]? = some x := ⟨_, List.getElem?_eq_getElem hkk⟩
        obtain ⟨t, ht, t1, t2, t3, t4⟩ := left_mod x u
        obtain ⟨kb, ko, rfl, ck⟩ : ∃ kb ko, ka = some ⟨kb, ko, none⟩ ∧ wr.cell? ⟨kb, ko + k, none⟩ = some (.int .i64 x) := by
          obtain ⟨ka', kc', e, _, _, _, hc⟩ := hrk
          cases e
          obtain ⟨b, off, h1, h2⟩ := hc k (.int .i64 x) (by rw [ints64, List.getElem?_map, hx]; rfl)
          exact ⟨b, off, h1, h2⟩
        have Hx := Lib.hid hx
        clear hrk hx
        have Ht := Lib.hid ht
        clear ht
        have hnz : ((u : Int) + 1 == 0) = false := beq_eq_false_iff_ne.2 (by omega)
        by_cases ht0 : 0 ≤ t
        · have Hq := Lib.hid (show (leftOf keep[k]? u : Int) = t by rw [Hx.out]; exact t3 ht0)
          clear t3 t4
          go_wp2_with (with_reducible refine wpList_lookup_hit rfl Tryz.underlying72 Tryz.underlying9 _ _ rfl rfl rfl h4 hkv ?_; go_frame)
          go_quiet (fail)
          have b3 : (f'.synced : Int) + t ≤ (f'.bytes.length : Int) := by omega
          have b4 : 0 ≤ (u : Int) - t := by omega
          have b5 : 0 ≤ (U : Int) - ((u : Int) - t) := by omega
          have Hui := Lib.hid hui
          clear hui
          have ht := Ht.out
          go_wp2_with fail
          have h6 := ((hS.drewN nq).swap.set (j := 1) (.int .i64 ((U : Int) - ((u : Int) - t)))).swap
          generalize (wr.drewN nq).setCell _ _ = w3 at h6 ⊢
          have h7 := file_out h6.q3
          have a2 : w3.cell? ⟨a, 0, none⟩ = some (.string (bA f'.bytes)) := h7.pt_cell 0
          have a3 : w3.cell? ⟨a, 1, none⟩ = some (.int .i64 (f'.synced : Int)) := h7.pt_cell 1
          have af2 := h7.pt_free
          clear c1 c2 f1 a0 a1 af ck
          go_region
          have h8 := (h7.set (j := 0) (.string ((bA f'.bytes).extract 0 ((f'.synced : Int) + t).toNat))).drew
          generalize (w3.setCell _ _).drew = w4 at h8 ⊢
          have hq := Hq.out
          obtain ⟨q, hqq⟩ : ∃ q, leftOf keep[k]? u = q := ⟨_, rfl⟩
          rw [hqq] at hq
          have Hqq := Lib.hid hqq
          rw [ext_take f'.bytes ((f'.synced : Int) + t) (f'.synced + q) (by omega)] at h8
          have hqu := leftOf_le keep[k]? u
          rw [hqq] at hqu
          have htl : (f'.bytes.take (f'.synced + q)).length = f'.synced + q := by rw [List.length_take]; omega
          obtain ⟨tb, htb⟩ : ∃ tb, f'.bytes.take (f'.synced + q) = tb := ⟨_, rfl⟩
          rw [htb] at h8 htl
          have Htb := Lib.hid htb
          have hs2 : tb.length ≤ 9223372036854775807 := by omega
          clear htb hqq hq hqu a2 a3 af2
          have a4 : w4.cell? ⟨a, 0, none⟩ = some (.string (bA tb)) := h8.pt_cell 0
          have a5 : w4.cell? ⟨a, 1, none⟩ = some (.int .i64 (f'.synced : Int)) := h8.pt_cell 1
          have af3 := h8.pt_free
          have Htl := Lib.hid htl
          clear htl
          go_wp2_with fail
          have h9 := h8.set (j := 1) (.int .i64 (tb.length : Int))
          go_roundg (gk - 1)
          case measure => omega
          case rel =>
            refine ⟨k + 1, E1 ++ (a, crashF keep[k]? f') :: E2, by omega, by omega, by go_num, crash_step Hf.out HF.out Hset.out, (kv_same (f := f') (g := crashF keep[k]? f') rfl).trans HkF.out, ?_⟩
            have e1 := crash_used (keep := keep) Hf.out hsy Hu.out
            rw [HU.out] at e1
            have e2 : crashF keep[k]? f' = ⟨f'.name, tb, f'.synced + q⟩ := by rw [crashF, Hu.out, Hqq.out, Htb.out]
            have e3 : ((U : Int) - ((u : Int) - t) : Int) = ((usedD (crashK keep (k + 1) D) : Nat) : Int) := by have := Hq.out; omega
            rw [e3] at h9
            rw [Htl.out] at h9 ⊢
            rw [e2]
            have h10 := file_in (f := ⟨f'.name, tb, f'.synced + q⟩) h9
            exact h10.p3
        · have Hq := Lib.hid (show (leftOf keep[k]? u : Int) = t + ((u : Int) + 1) by rw [Hx.out]; exact t4 (by omega))
          have ht1 : t < 0 := by omega
          clear t3 t4
          go_wp2_with (with_reducible refine wpList_lookup_hit rfl Tryz.underlying72 Tryz.underlying9 _ _ rfl rfl rfl h4 hkv ?_; go_frame)
          go_quiet (fail)
          have b0 : 0 ≤ t + ((u : Int) + 1) := by omega
          have b1' : t + ((u : Int) + 1) ≤ (u : Int) := by omega
          have b3 : (f'.synced : Int) + (t + ((u : Int) + 1)) ≤ (f'.bytes.length : Int) := by omega
          have b4 : 0 ≤ (u : Int) - (t + ((u : Int) + 1)) := by omega
          have b5 : 0 ≤ (U : Int) - ((u : Int) - (t + ((u : Int) + 1))) := by omega
          have Hui := Lib.hid hui
          clear hui
          have ht := Ht.out
          go_wp2_with fail
          have h6 := ((hS.drewN nq).swap.set (j := 1) (.int .i64 ((U : Int) - ((u : Int) - (t + ((u : Int) + 1)))))).swap
          generalize (wr.drewN nq).setCell _ _ = w3 at h6 ⊢
          have h7 := file_out h6.q3
          have a2 : w3.cell? ⟨a, 0, none⟩ = some (.string (bA f'.bytes)) := h7.pt_cell 0
          have a3 : w3.cell? ⟨a, 1, none⟩ = some (.int .i64 (f'.synced : Int)) := h7.pt_cell 1
          have af2 := h7.pt_free
          clear c1 c2 f1 a0 a1 af ck
          go_region
          have h8 := (h7.set (j := 0) (.string ((bA f'.bytes).extract 0 ((f'.synced : Int) + (t + ((u : Int) + 1))).toNat))).drew
          generalize (w3.setCell _ _).drew = w4 at h8 ⊢
          have hq := Hq.out
          obtain ⟨q, hqq⟩ : ∃ q, leftOf keep[k]? u = q := ⟨_, rfl⟩
          rw [hqq] at hq
          have Hqq := Lib.hid hqq
          rw [ext_take f'.bytes ((f'.synced : Int) + (t + ((u : Int) + 1))) (f'.synced + q) (by omega)] at h8
          have hqu := leftOf_le keep[k]? u
          rw [hqq] at hqu
          have htl : (f'.bytes.take (f'.synced + q)).length = f'.synced + q := by rw [List.length_take]; omega
          obtain ⟨tb, htb⟩ : ∃ tb, f'.bytes.take (f'.synced + q) = tb := ⟨_, rfl⟩
          rw [htb] at h8 htl
          have Htb := Lib.hid htb
          have hs2 : tb.length ≤ 9223372036854775807 := by omega
          clear htb hqq hq hqu a2 a3 af2
          have a4 : w4.cell? ⟨a, 0, none⟩ = some (.string (bA tb)) := h8.pt_cell 0
          have a5 : w4.cell? ⟨a, 1, none⟩ = some (.int .i64 (f'.synced : Int)) := h8.pt_cell 1
          have af3 := h8.pt_free
          have Htl := Lib.hid htl
          clear htl
          go_wp2_with fail
          have h9 := h8.set (j := 1) (.int .i64 (tb.length : Int))
          go_roundg (gk - 1)
          case measure => omega
          case rel =>
            refine ⟨k + 1, E1 ++ (a, crashF keep[k]? f') :: E2, by omega, by omega, by go_num, crash_step Hf.out HF.out Hset.out, (kv_same (f := f') (g := crashF keep[k]? f') rfl).trans HkF.out, ?_⟩
            have e1 := crash_used (keep := keep) Hf.out hsy Hu.out
            rw [HU.out] at e1
            have e2 : crashF keep[k]? f' = ⟨f'.name, tb, f'.synced + q⟩ := by rw [crashF, Hu.out, Hqq.out, Htb.out]
            have e3 : ((U : Int) - ((u : Int) - (t + ((u : Int) + 1))) : Int) = ((usedD (crashK keep (k + 1) D) : Nat) : Int) := by have := Hq.out; omega
            rw [e3] at h9
            rw [Htl.out] at h9 ⊢
            rw [e2]
            have h10 := file_in (f := ⟨f'.name, tb, f'.synced + q⟩) h9
            exact h10.p3
      · have b2 : ¬ (k : Int) < (keep.length : Int) := by omega
        have Hq := Lib.hid (show (leftOf keep[k]? u : Int) = 0 by rw [List.getElem?_eq_none (by omega)]; rfl)
        clear hrk
        go_wp2_with (with_reducible refine wpList_lookup_hit rfl Tryz.underlying72 Tryz.underlying9 _ _ rfl rfl rfl h4 hkv ?_; go_frame)
        go_quiet (fail)
        have b3 : (f'.synced : Int) ≤ (f'.bytes.length : Int) := by omega
        have b5 : 0 ≤ (U : Int) - (u : Int) := by omega
        have Hui := Lib.hid hui
        clear hui
        go_wp2_with fail
        have h6 := ((hS.drewN nq).swap.set (j := 1) (.int .i64 ((U : Int) - (u : Int)))).swap
        generalize (wr.drewN nq).setCell _ _ = w3 at h6 ⊢
        have h7 := file_out h6.q3
        have a2 : w3.cell? ⟨a, 0, none⟩ = some (.string (bA f'.bytes)) := h7.pt_cell 0
        have a3 : w3.cell? ⟨a, 1, none⟩ = some (.int .i64 (f'.synced : Int)) := h7.pt_cell 1
        have af2 := h7.pt_free
        clear c1 c2 f1 a0 a1 af 
        go_region
        have h8 := (h7.set (j := 0) (.string ((bA f'.bytes).extract 0 f'.synced))).drew
        generalize (w3.setCell _ _).drew = w4 at h8 ⊢
        have hq := Hq.out
        obtain ⟨q, hqq⟩ : ∃ q, leftOf keep[k]? u = q := ⟨_, rfl⟩
        rw [hqq] at hq
        have Hqq := Lib.hid hqq
        rw [ext_take0 f'.bytes f'.synced q (by omega)] at h8
        have hqu := leftOf_le keep[k]? u
        rw [hqq] at hqu
        have htl : (f'.bytes.take (f'.synced + q)).length = f'.synced + q := by rw [List.length_take]; omega
        obtain ⟨tb, htb⟩ : ∃ tb, f'.bytes.take (f'.synced + q) = tb := ⟨_, rfl⟩
        rw [htb] at h8 htl
        have Htb := Lib.hid htb
        have hs2 : tb.length ≤ 9223372036854775807 := by omega
        clear htb hqq hq hqu a2 a3 af2
        have a4 : w4.cell? ⟨a, 0, none⟩ = some (.string (bA tb)) := h8.pt_cell 0
        have a5 : w4.cell? ⟨a, 1, none⟩ = some (.int .i64 (f'.synced : Int)) := h8.pt_cell 1
        have af3 := h8.pt_free
        have Htl := Lib.hid htl
        clear htl
        go_wp2_with fail
        have h9 := h8.set (j := 1) (.int .i64 (tb.length : Int))
        go_roundg (gk - 1)
        case measure => omega
        case rel =>
          refine ⟨k + 1, E1 ++ (a, crashF keep[k]? f') :: E2, by omega, by omega, by go_num, crash_step Hf.out HF.out Hset.out, (kv_same (f := f') (g := crashF keep[k]? f') rfl).trans HkF.out, ?_⟩
          have e1 := crash_used (keep := keep) Hf.out hsy Hu.out
          rw [HU.out] at e1
          have e2 : crashF keep[k]? f' = ⟨f'.name, tb, f'.synced + q⟩ := by rw [crashF, Hu.out, Hqq.out, Htb.out]
          have e3 : ((U : Int) - (u : Int) : Int) = ((usedD (crashK keep (k + 1) D) : Nat) : Int) := by have := Hq.out; omega
          rw [e3] at h9
          rw [Htl.out] at h9 ⊢
          rw [e2]
          have h10 := file_in (f := ⟨f'.name, tb, f'.synced + q⟩) h9
          exact h10.p3
    · have b1 : ¬ (k : Int) < (D.length : Int) := by omega
      obtain rfl : k = D.length := by omega
      have hfin : Sat B (disk p room (crashD keep 0 D) :: L) wr := by
        have h4 := hS.drop
        rw [← hkF, crashK_all keep D (Nat.le_refl _)] at h4
        rw [crashK_all keep D (Nat.le_refl _)] at hF
        exact disk_close hF (Hok.out.crash keep) h4
      clear hS hkF hF
      go_wp2_with fail
      exact bodyPost_end (results_none rfl _ _ _) rfl ⟨rfl, hfin⟩
end
end Go.Proofs.YtdngjkjoahgelaaGreatDoor
