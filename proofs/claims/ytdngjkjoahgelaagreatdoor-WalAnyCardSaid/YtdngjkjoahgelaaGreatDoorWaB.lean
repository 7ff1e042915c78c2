/-
  wal: Sync: contract. wal: anew and its function: contracts.
-/
import Derived.Test.YtdngjkjoahgelaaGreatDoorWaA
import Derived.Test.YtdngjkjoahgelaaGreatDoorWlD
namespace Go.Proofs.YtdngjkjoahgelaaGreatDoor
set_option linter.all false
set_option maxRecDepth 100000
set_option maxHeartbeats 1000000
open Go.RowKit
section
variable {B w w' : World} {L M : List HP} {q p most room : Nat} {pre : Bt} {F : List WF} {D : Fls}
theorem syncW_snoc (D : Fls) (p : Bt) (F : List WF) (f : WF) : syncW D p (F ++ [f]) = (syncD D (nameW p f.first)).2 := by simp [syncW]
/-- 'Sync'. -/
theorem pwSync (hE : Env B) (h : Sat B (wal q p pre most F :: disk p room D :: L) w) :
    Calls Tryz.prog 9 #[.pointer (some ⟨q, 0, none⟩)] w fun y w' => y = .returned (.int .i64 0) ∧ Sat B (wal q p pre most F :: disk p room (syncW D pre F) :: L) w' := by
  obtain ⟨fv, G, hG, hok, h1⟩ := wal_open h
  have c0 : w.cell? ⟨q, 0, none⟩ = some (.pointer (some ⟨p, 0, none⟩)) := h1.pt_cell 0
  have c3 : w.cell? ⟨q, 3, none⟩ = some fv := h1.pt_cell 3
  have hno := pwNone (q := q) c0
  have h2 := h1.swap
  obtain ⟨a, c, rfl, ha, _, hc⟩ := h2.row_reads
  have hc : c ≤ 9223372036854775807 := by have := hc.1; unfold maxLen at this; omega
  rcases snoc_cases F with rfl | ⟨F', f, rfl⟩
  · have hGn : G = [] := by simpa using hG
    subst hGn
    clear h1 h2 hok
    go_enter Tryz.func9, Tryz.ntmps9
    go_wp2_with (go_at_call 39; refine hno.mono ?_; rintro y w1 ⟨rfl, rfl⟩)
    go_ret
    exact ⟨rfl, h⟩
  · obtain ⟨G', v, rfl, hG'⟩ := wal_snoc hG
    obtain ⟨m, hm⟩ : ∃ m, G'.length = m := ⟨_, rfl⟩
    have hx : (G' ++ [(f, v)])[m]? = some (f, v) := by rw [← hm]; simp
    have hlen : (G' ++ [(f, v)]).length = m + 1 := by simp [hm]
    have HG := Lib.hid hG
    have Hlen := Lib.hid hlen
    rw [hlen] at c3 h2 ha h1
    obtain ⟨g, off, rfl⟩ := row_some (g := Unit) h2 (by omega)
    have hf := hok.first f (by simp)
    have hmn := hok.many
    have hFl : F'.length = m := by rw [← hG', List.length_map, hm]
    have b0 : m ≤ 1000000 := by simp at hmn; omega
    have b1 : (m : Int) ≤ 1000000 := by omega
    have b2 : (m : Int) < (m : Int) + 1 := by omega
    have ew : IntKind.i64.wrap (m : Int) = (m : Int) := wraps_i64' _ (by omega) (by omega)
    have b3 : (0 : Int) < (m : Int) + 1 := by omega
    have hS : ∀ (D' : Fls) (w' : World), Sat B (pt q (wlC p pre most (.slice (some ⟨g, off, none⟩) (m + 1) c)) :: row 87 3 (.slice (some ⟨g, off, none⟩) (m + 1) c) (m + 1) ((G' ++ [(f, v)]).flatMap wfC) :: stars ((G' ++ [(f, v)]).map recP) :: disk p room D' :: L) w' →
        w'.cell? ⟨q, 0, none⟩ = some (.pointer (some ⟨p, 0, none⟩)) ∧ w'.cell? ⟨q, 3, none⟩ = some (.slice (some ⟨g, off, none⟩) (m + 1) c) ∧ w'.cell? ⟨g, off + m * 3, none⟩ = some (.int .u64 (f.first : Int)) := fun D' w' h' =>
      ⟨h'.pt_cell 0, h'.pt_cell 3, (file_at h'.swap hx).1⟩
    have hc1 : ∀ w', Sat B (pt q (wlC p pre most (.slice (some ⟨g, off, none⟩) (m + 1) c)) :: row 87 3 (.slice (some ⟨g, off, none⟩) (m + 1) c) (m + 1) ((G' ++ [(f, v)]).flatMap wfC) :: stars ((G' ++ [(f, v)]).map recP) :: disk p room D :: L) w' →
        w'.cell? ⟨q, 1, none⟩ = some (.string (bA pre)) := fun w' h' => h'.pt_cell 1
    have h0 := hS _ _ h1.drew
    have h1d := h1.drew
    have hpl := hok.pre
    have Hok := Lib.hid hok
    have Hsy := Lib.hid (syncW_snoc D pre F' f)
    clear h h2 hok hG hG' hx hm hlen hmn hFl ha
    go_enter Tryz.func9, Tryz.ntmps9
    go_wp2_with (go_at_call 39; refine hno.mono ?_; rintro y w1 ⟨rfl, rfl⟩)
    go_region_held3 (fun w' => w'.cell? ⟨q, 0, none⟩ = some (.pointer (some ⟨p, 0, none⟩)) ∧ w'.cell? ⟨q, 3, none⟩ = some (.slice (some ⟨g, off, none⟩) (m + 1) c) ∧ w'.cell? ⟨g, off + m * 3, none⟩ = some (.int .u64 (f.first : Int)))
      (first | exact h0 | exact hS _ _ h3.q3 | exact hS _ _ h2)
      (first
        | (go_at_call 37; refine (pwName hE f.first hf.2 h1d hc1 hpl).mono ?_; rintro y w2 ⟨rfl, h2⟩)
        | (go_at_call 40; refine (pdSync (nameW pre f.first) h2.p3).mono ?_; rintro y w3 ⟨rfl, h3⟩))
    all_goals
      go_wp2_with fail
      go_ret
      rw [Hsy.out]
      refine ⟨rfl, wal_close HG.out Hok.out (fv := .slice (some ⟨g, off, none⟩) (m + 1) c) ?_⟩
      rw [Hlen.out]
      exact h3.q3
end
end Go.Proofs.YtdngjkjoahgelaaGreatDoor

namespace Go.Proofs.YtdngjkjoahgelaaGreatDoor
set_option linter.all false
set_option maxRecDepth 100000
set_option maxHeartbeats 1000000
open Go.RowKit
def anew1 (room : Nat) (D : Fls) (p : Bt) (n : Nat) (bytes : Bt) : Int × Fls :=
  let x := appendD room D (tmpW p) bytes
  if x.1 = 0 then renameD (syncD x.2 (tmpW p)).2 (tmpW p) (nameW p n) else (x.1, D)
theorem anew_eq (room : Nat) (D : Fls) (p : Bt) (n : Nat) (b : Bt) : anewW room D p n b = anew1 room (removeD D (tmpW p)).2 p n b := rfl
theorem append_err {room : Nat} {D : Fls} {n d : Bt} (h : (appendD room D n d).1 ≠ 0) : (appendD room D n d).2 = D ∧ ((appendD room D n d).1 = 2 ∨ (appendD room D n d).1 = 7) := by
  unfold appendD at h ⊢
  split
  · exact ⟨rfl, .inl rfl⟩
  · split
    · exact ⟨rfl, .inr rfl⟩
    · rename_i h1 h2
      rw [if_neg h1, if_neg h2] at h
      exact absurd rfl h
theorem append_zero {room : Nat} {D : Fls} {n d : Bt} (hok : DOk room D) (h : (appendD room D n d).1 = 0) : (syncD (appendD room D n d).2 n).1 = 0 := by
  unfold appendD at h ⊢
  split at h
  · cases h
  · split at h
    · cases h
    · rename_i h1 h2
      rw [if_neg h1, if_neg h2]
      have : getF n (putF ⟨n, bytesOf n D ++ d, syncedOf n D⟩ D) = some ⟨n, bytesOf n D ++ d, syncedOf n D⟩ := by rw [getF_put hok.srt, if_pos rfl]
      simp only [syncD, this]
section
variable {B w w' : World} {L M : List HP} {q p most room bw bs bb bf n : Nat} {pre bytes : Bt} {D : Fls}
/-- What the function of 'anew' reads. -/
structure AnCells (q p bw bs bb bf n : Nat) (pre bytes : Bt) (w : World) : Prop where
  a : w.cell? ⟨bw, 0, none⟩ = some (.pointer (some ⟨q, 0, none⟩))
  b : w.cell? ⟨bs, 0, none⟩ = some (.string (bA (tmpW pre)))
  c : w.cell? ⟨bb, 0, none⟩ = some (.string (bA bytes))
  d : w.cell? ⟨bf, 0, none⟩ = some (.int .u64 (n : Int))
  e : w.cell? ⟨q, 0, none⟩ = some (.pointer (some ⟨p, 0, none⟩))
  f : w.cell? ⟨q, 1, none⟩ = some (.string (bA pre))
theorem pwAnew1 (hE : Env B) (hq : ∀ (D' : Fls) (w' : World), Sat B (disk p room D' :: L) w' → AnCells q p bw bs bb bf n pre bytes w') (hn : inR n) (hp : pre.length ≤ 48) (hb : bytes.length ≤ 9223372036854775807) (h : Sat B (disk p room D :: L) w) :
    Calls Tryz.prog 75 #[.pointer (some ⟨bw, 0, none⟩), .pointer (some ⟨bs, 0, none⟩), .pointer (some ⟨bb, 0, none⟩), .pointer (some ⟨bf, 0, none⟩)] w fun y w' => y = .returned (.int .i64 (anew1 room D pre n bytes).1) ∧ Sat B (disk p room (anew1 room D pre n bytes).2 :: L) w' := by
  have hok := disk_ok h
  have htl : (tmpW pre).length ≤ 9223372036854775807 := by simp [tmpW]; omega
  have h0 := h.drew
  have hS : ∀ (D' : Fls) (w' : World), Sat B (disk p room D' :: L) w' → w'.cell? ⟨bw, 0, none⟩ = some (.pointer (some ⟨q, 0, none⟩)) ∧ w'.cell? ⟨bs, 0, none⟩ = some (.string (bA (tmpW pre))) ∧ w'.cell? ⟨bb, 0, none⟩ = some (.string (bA bytes)) ∧ w'.cell? ⟨bf, 0, none⟩ = some (.int .u64 (n : Int)) ∧
      w'.cell? ⟨q, 0, none⟩ = some (.pointer (some ⟨p, 0, none⟩)) := fun D' w' h' => by obtain ⟨a, b, c, d, e, _⟩ := hq D' w' h'; exact ⟨a, b, c, d, e⟩
  have hf : ∀ (D' : Fls) (w' : World), Sat B (disk p room D' :: L) w' → w'.cell? ⟨q, 1, none⟩ = some (.string (bA pre)) := fun D' w' h' => (hq D' w' h').f
  have hs0 := hS _ _ h0
  by_cases hx : (appendD room D (tmpW pre) bytes).1 = 0
  · have hsy := append_zero hok hx
    have Han := Lib.hid (show anew1 room D pre n bytes = renameD (syncD (appendD room D (tmpW pre) bytes).2 (tmpW pre)).2 (tmpW pre) (nameW pre n) by rw [anew1]; simp only [hx, if_true])
    have hnl : (nameW pre n).length ≤ 9223372036854775807 := by rw [name_len hn]; omega
    have Hx := Lib.hid hx
    have Hsy := Lib.hid hsy
    clear hq hok hx hsy
    go_enter Tryz.func75, Tryz.ntmps75
    go_wp2_with fail
    go_region_held3 (fun w' => w'.cell? ⟨bw, 0, none⟩ = some (.pointer (some ⟨q, 0, none⟩)) ∧ w'.cell? ⟨bs, 0, none⟩ = some (.string (bA (tmpW pre))) ∧ w'.cell? ⟨bb, 0, none⟩ = some (.string (bA bytes)) ∧ w'.cell? ⟨bf, 0, none⟩ = some (.int .u64 (n : Int)) ∧ w'.cell? ⟨q, 0, none⟩ = some (.pointer (some ⟨p, 0, none⟩)))
      (first | exact hs0 | exact hS _ _ h1)
      (first | (go_at_call 17; refine (pdAppend (tmpW pre) bytes htl hb h0).mono ?_; rintro y w1 ⟨rfl, h1⟩))
    rw [Hx.out]
    have h1d := h1.drew
    have hs1 := hS _ _ h1d
    go_wp2_with fail
    go_region_held3 (fun w' => w'.cell? ⟨bw, 0, none⟩ = some (.pointer (some ⟨q, 0, none⟩)) ∧ w'.cell? ⟨bs, 0, none⟩ = some (.string (bA (tmpW pre))) ∧ w'.cell? ⟨bb, 0, none⟩ = some (.string (bA bytes)) ∧ w'.cell? ⟨bf, 0, none⟩ = some (.int .u64 (n : Int)) ∧ w'.cell? ⟨q, 0, none⟩ = some (.pointer (some ⟨p, 0, none⟩)))
      (first | exact hs1 | exact hS _ _ h2)
      (first | (go_at_call 40; refine (pdSync (tmpW pre) h1d).mono ?_; rintro y w2 ⟨rfl, h2⟩))
    rw [Hsy.out]
    have h2d := h2.drew
    have hs2 := hS _ _ h2d
    go_wp2_with fail
    go_region_held3 (fun w' => w'.cell? ⟨bw, 0, none⟩ = some (.pointer (some ⟨q, 0, none⟩)) ∧ w'.cell? ⟨bs, 0, none⟩ = some (.string (bA (tmpW pre))) ∧ w'.cell? ⟨bb, 0, none⟩ = some (.string (bA bytes)) ∧ w'.cell? ⟨bf, 0, none⟩ = some (.int .u64 (n : Int)) ∧ w'.cell? ⟨q, 0, none⟩ = some (.pointer (some ⟨p, 0, none⟩)))
      (first | exact hs2 | exact hS _ _ h4 | exact hS _ _ h3)
      (first
        | (go_at_call 37; refine (pwName hE n hn.2 h2d (fun w' h' => hf _ w' h') hp).mono ?_; rintro y w3 ⟨rfl, h3⟩)
        | (go_at_call 76; refine (pdRename (tmpW pre) (nameW pre n) hnl h3).mono ?_; rintro y w4 ⟨rfl, h4⟩))
    all_goals
      go_wp2_with fail
      go_ret
      rw [Han.out]
      exact ⟨rfl, h4⟩
  · obtain ⟨e1, e2⟩ := append_err hx
    have Han := Lib.hid (show anew1 room D pre n bytes = ((appendD room D (tmpW pre) bytes).1, D) by rw [anew1]; simp only [if_neg hx])
    have hap := pdAppend (tmpW pre) bytes htl hb h0
    rw [e1] at hap
    obtain ⟨z, hz⟩ : ∃ z, (appendD room D (tmpW pre) bytes).1 = z := ⟨_, rfl⟩
    rw [hz] at hap hx e2 Han
    have z1 : (z == 0) = false := by simpa using hx
    have z2 : (z != 0) = true := by simpa using hx
    clear hq hok hz e1 e2
    go_enter Tryz.func75, Tryz.ntmps75
    go_wp2_with fail
    go_region_held3 (fun w' => w'.cell? ⟨bw, 0, none⟩ = some (.pointer (some ⟨q, 0, none⟩)) ∧ w'.cell? ⟨bs, 0, none⟩ = some (.string (bA (tmpW pre))) ∧ w'.cell? ⟨bb, 0, none⟩ = some (.string (bA bytes)) ∧ w'.cell? ⟨bf, 0, none⟩ = some (.int .u64 (n : Int)) ∧ w'.cell? ⟨q, 0, none⟩ = some (.pointer (some ⟨p, 0, none⟩)))
      (first | exact hs0 | exact hS _ _ h1)
      (first | (go_at_call 17; refine hap.mono ?_; rintro y w1 ⟨rfl, h1⟩))
    all_goals
      go_wp2_with fail
      go_ret
      rw [Han.out]
      exact ⟨rfl, h1⟩
/-- 'anew'. -/
theorem pwAnew (hE : Env B) (hq : ∀ (D' : Fls) (w' : World), Sat B (disk p room D' :: L) w' → w'.cell? ⟨q, 0, none⟩ = some (.pointer (some ⟨p, 0, none⟩)) ∧ w'.cell? ⟨q, 1, none⟩ = some (.string (bA pre))) (hn : inR n) (hp : pre.length ≤ 48) (hb : bytes.length ≤ 9223372036854775807) (h : Sat B (disk p room D :: L) w) :
    Calls Tryz.prog 38 #[.pointer (some ⟨q, 0, none⟩), .int .u64 (n : Int), .string (bA bytes)] w fun y w' => y = .returned (.int .i64 (anewW room D pre n bytes).1) ∧ Sat B (disk p room (anewW room D pre n bytes).2 :: L) w' := by
  have hzp : (bA pre).size = pre.length := by simp [ByteArray.size]
  have hzt : ¬ 9223372036854775807 < pre.length + 3 := by omega
  have hcat : bA pre ++ ⟨#[116, 109, 112]⟩ = bA (tmpW pre) := by rw [show (⟨#[116, 109, 112]⟩ : ByteArray) = bA [116, 109, 112] from rfl, ba_add]; rfl
  obtain ⟨bw, hbw⟩ : ∃ bw, w.heap.size = bw := ⟨_, rfl⟩
  have h1 := (h.alloc' (.cells #[.pointer (some ⟨q, 0, none⟩)] 26) (n := bw) hbw.symm).swap
  have h2 := (h1.alloc' (.cells #[.int .u64 (n : Int)] 35) (n := bw + 1) (by simp [hbw])).swap
  have h3 := (h2.alloc' (.cells #[.string (bA bytes)] 9) (n := bw + 1 + 1) (by simp [hbw])).swap
  have hq3 := hq _ _ (h3.swap.drop.swap.drop.swap.drop)
  go_enter Tryz.func38, Tryz.ntmps38
  go_wp2_with fail
  have h4 := (h3.alloc' (.cells #[.string (bA (tmpW pre))] 9) (n := bw + 1 + 1 + 1) (by simp [hbw])).swap
  generalize (((w.alloc _).alloc _).alloc _).alloc _ = w4 at h4 ⊢
  have hAn : ∀ (D' : Fls) (w' : World), Sat B (disk p room D' :: pt (bw + 1 + 1 + 1) (.cells #[.string (bA (tmpW pre))] 9) :: pt (bw + 1 + 1) (.cells #[.string (bA bytes)] 9) :: pt (bw + 1) (.cells #[.int .u64 (n : Int)] 35) :: pt bw (.cells #[.pointer (some ⟨q, 0, none⟩)] 26) :: L) w' →
      AnCells q p bw (bw + 1 + 1 + 1) (bw + 1 + 1) (bw + 1) n pre bytes w' := fun D' w' h' => by
    obtain ⟨k1, k2⟩ := hq _ _ (h'.swap.drop.swap.drop.swap.drop.swap.drop)
    exact ⟨h'.p4.pt_cell 0, h'.swap.pt_cell 0, h'.p2.pt_cell 0, h'.p3.pt_cell 0, k1, k2⟩
  have h4d := h4.drew
  obtain ⟨a1, a2, a3, a4, a5, a6⟩ := hAn _ _ h4d
  have hs0 : w4.drew.cell? ⟨bw, 0, none⟩ = some (.pointer (some ⟨q, 0, none⟩)) ∧ w4.drew.cell? ⟨bw + 1 + 1 + 1, 0, none⟩ = some (.string (bA (tmpW pre))) ∧ w4.drew.cell? ⟨q, 0, none⟩ = some (.pointer (some ⟨p, 0, none⟩)) := ⟨a1, a2, a5⟩
  have hS : ∀ (D' : Fls) (w' : World), Sat B (disk p room D' :: pt (bw + 1 + 1 + 1) (.cells #[.string (bA (tmpW pre))] 9) :: pt (bw + 1 + 1) (.cells #[.string (bA bytes)] 9) :: pt (bw + 1) (.cells #[.int .u64 (n : Int)] 35) :: pt bw (.cells #[.pointer (some ⟨q, 0, none⟩)] 26) :: L) w' →
      w'.cell? ⟨bw, 0, none⟩ = some (.pointer (some ⟨q, 0, none⟩)) ∧ w'.cell? ⟨bw + 1 + 1 + 1, 0, none⟩ = some (.string (bA (tmpW pre))) ∧ w'.cell? ⟨q, 0, none⟩ = some (.pointer (some ⟨p, 0, none⟩)) := fun D' w' h' => by obtain ⟨a, b, c, d, e, _⟩ := hAn D' w' h'; exact ⟨a, b, e⟩
  clear h1 h2 h3 hq3 a1 a2 a3 a4 a5 a6 hbw h hcat hzt
  go_region_held3 (fun w' => w'.cell? ⟨bw, 0, none⟩ = some (.pointer (some ⟨q, 0, none⟩)) ∧ w'.cell? ⟨bw + 1 + 1 + 1, 0, none⟩ = some (.string (bA (tmpW pre))) ∧ w'.cell? ⟨q, 0, none⟩ = some (.pointer (some ⟨p, 0, none⟩)))
    (first | exact hs0 | exact hS _ _ h5)
    (first | (go_at_call 33; refine (pdRemove (tmpW pre) h4d).mono ?_; rintro y w5 ⟨rfl, h5⟩))
  have hcl := pwAnew1 hE hAn hn hp hb h5
  rw [← anew_eq] at hcl
  go_wp2_with fail
  refine hcl.mono ?_
  rintro y w6 ⟨rfl, h6⟩
  go_wp2_with fail
  go_ret
  exact ⟨rfl, h6.swap.drop.swap.drop.swap.drop.swap.drop⟩
end
end Go.Proofs.YtdngjkjoahgelaaGreatDoor
