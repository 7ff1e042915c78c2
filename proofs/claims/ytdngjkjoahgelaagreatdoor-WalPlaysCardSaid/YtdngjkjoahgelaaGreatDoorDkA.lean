/-
  Disks in the separation logic: 'disk p room D': at p lies a disk of that room with just the files D. disk: none, name, of, Free, Synced, Read: contracts. disk: Sync, Read, Synced, Free, New: contracts. disk: Append, Free, New: contracts.
-/
import Derived.Test.YtdngjkjoahgelaaGreatDoorSlA
import Derived.Test.YtdngjkjoahgelaaGreatDoorDkP
import Derived.Test.YtdngjkjoahgelaaGreatDoorProg
import Derived.Lib.Hide
import Derived.Lib.Strings
import Derived.Deep.QuietTactic
import Derived.BigQuiet
namespace Go.Proofs.YtdngjkjoahgelaaGreatDoor
set_option linter.all false
open Go.RowKit
section
variable {B w w' : World} {L M : List HP} {A C : HP}
theorem stars_mid {L1 L2 : List HP} : ∀ {h : Hl}, stars (L1 ++ A :: L2) h → stars (A :: (L1 ++ L2)) h := by
  induction L1 with
  | nil => intro h hs; exact hs
  | cons X L1 ih => intro h hs; exact stars_swap (stars_tail (fun _ => ih) hs)
theorem stars_mid' {L1 L2 : List HP} : ∀ {h : Hl}, stars (A :: (L1 ++ L2)) h → stars (L1 ++ A :: L2) h := by
  induction L1 with
  | nil => intro h hs; exact hs
  | cons X L1 ih => intro h hs; exact stars_tail (fun _ => ih) (stars_swap hs)
/-- One of many, taken out. -/
theorem Sat.mid {L1 L2 : List HP} (h : Sat B (stars (L1 ++ A :: L2) :: M) w) : Sat B (A :: stars (L1 ++ L2) :: M) w := by
  have h1 : Sat B (stars (A :: (L1 ++ L2)) :: M) w := h.head fun _ => stars_mid
  exact (show Sat B (A :: ((L1 ++ L2) ++ M)) w from h1.flat).conv fun _ hx => stars_tail (fun _ => stars_fold _ _ _) hx
theorem Sat.mid' {L1 L2 : List HP} (h : Sat B (A :: stars (L1 ++ L2) :: M) w) : Sat B (stars (L1 ++ A :: L2) :: M) w := by
  have h1 : Sat B ((A :: (L1 ++ L2)) ++ M) w := h.conv fun _ hx => stars_tail (fun _ => stars_flat _ _ _) hx
  exact h1.fold.head fun _ => stars_mid'
theorem Sat.p1 {A0 X : HP} (h : Sat B (A0 :: X :: L) w) : Sat B (X :: A0 :: L) w := h.swap
end
/-- A file's cells. -/
abbrev flC (f : Fl) : Obj := .cells #[.string ⟨f.bytes.toArray⟩, .int .i64 (f.synced : Int)] 91
def flP (x : Nat × Fl) : HP := pt x.1 (flC x.2)
def kvE (E : List (Nat × Fl)) : List (Bt × Value) := E.map fun x => (x.2.name, .pointer (some ⟨x.1, 0, none⟩))
abbrev enm : Nat × Fl → Bt := fun x => x.2.name
abbrev dkC (room u mb : Nat) : Obj := .cells #[.int .i64 (room : Int), .int .i64 (u : Int), .map (some mb)] 74
/-- What lies there: the disk's own cells, its map, its files. -/
def diskL (p room mb : Nat) (E : List (Nat × Fl)) : List HP := [pt p (dkC room (usedD (E.map (·.2))) mb), smap mb (kvE E), stars (E.map flP)]
def disk (p room : Nat) (D : Fls) : HP := ex fun y : Nat × List (Nat × Fl) => stars (fact (y.2.map (·.2) = D ∧ DOk room D) :: diskL p room y.1 y.2)
section
variable {B w w' : World} {L M : List HP} {p room mb : Nat} {D : Fls} {E : List (Nat × Fl)}
theorem disk_open (h : Sat B (disk p room D :: L) w) : ∃ mb E, E.map (·.2) = D ∧ DOk room D ∧ Sat B (pt p (dkC room (usedD D) mb) :: smap mb (kvE E) :: stars (E.map flP) :: L) w := by
  obtain ⟨⟨mb, E⟩, h1⟩ := h.ex_out
  obtain ⟨⟨hE, hok⟩, h2⟩ := (show Sat B (fact _ :: (diskL p room mb E ++ L)) w from h1.flat).fact_out
  have h3 : Sat B (pt p (dkC room (usedD (E.map (·.2))) mb) :: smap mb (kvE E) :: stars (E.map flP) :: L) w := h2
  rw [hE] at h3
  exact ⟨mb, E, hE, hok, h3⟩
theorem disk_close (hE : E.map (·.2) = D) (hok : DOk room D) (h : Sat B (pt p (dkC room (usedD D) mb) :: smap mb (kvE E) :: stars (E.map flP) :: L) w) : Sat B (disk p room D :: L) w := by
  refine Sat.ex_in (mb, E) ?_
  have h1 : Sat B (fact (E.map (·.2) = D ∧ DOk room D) :: (diskL p room mb E ++ L)) w := Sat.fact_in ⟨hE, hok⟩ (by subst hE; exact h)
  exact Sat.fold (L := fact (E.map (·.2) = D ∧ DOk room D) :: diskL p room mb E) h1
/-- The disk's facts, without opening it. -/
theorem disk_ok (h : Sat B (disk p room D :: L) w) : DOk room D := by obtain ⟨_, _, _, hok, _⟩ := disk_open h; exact hok
theorem srtE (hE : E.map (·.2) = D) (h : SrtBy Fl.name D) : SrtBy enm E := by
  subst hE
  exact (List.pairwise_map (f := fun x : Nat × Fl => x.2) (R := fun a b : Fl => a.name < b.name)).1 h
theorem kv_mem {a : Nat} {f : Fl} (h : (a, f) ∈ E) : (f.name, Value.pointer (some ⟨a, 0, none⟩)) ∈ kvE E := List.mem_map.2 ⟨_, h, rfl⟩
theorem kv_none {n : Bt} (hE : E.map (·.2) = D) (h : getF n D = none) : n ∉ (kvE E).map (·.1) := fun hc => by
  obtain ⟨q, hq, rfl⟩ := List.mem_map.1 hc
  obtain ⟨x, hx, rfl⟩ := List.mem_map.1 hq
  exact getBy_none h x.2 (by rw [← hE]; exact List.mem_map.2 ⟨x, hx, rfl⟩) rfl
/-- A file that is there, and where it lies. -/
theorem at_file {n : Bt} {f : Fl} (hE : E.map (·.2) = D) (h : getF n D = some f) : ∃ E1 E2 a, E = E1 ++ (a, f) :: E2 ∧ f.name = n := by
  have h1 := List.mem_of_find?_eq_some h
  have h2 := List.find?_some h
  rw [← hE] at h1
  obtain ⟨⟨a, f'⟩, hx, hf⟩ := List.mem_map.1 h1
  simp only at hf
  subst hf
  obtain ⟨E1, E2, e⟩ := List.append_of_mem hx
  exact ⟨E1, E2, a, e, by simpa using h2⟩
/-- The file turned: the map's entries are the same. -/
theorem kv_same {E1 E2 : List (Nat × Fl)} {a : Nat} {f g : Fl} (hn : g.name = f.name) : kvE (E1 ++ (a, g) :: E2) = kvE (E1 ++ (a, f) :: E2) := by simp [kvE, hn]
theorem put_same {E1 E2 : List (Nat × Fl)} {a : Nat} {f g : Fl} (hE : (E1 ++ (a, f) :: E2).map (·.2) = D) (hs : SrtBy Fl.name D) (hn : g.name = f.name) : (E1 ++ (a, g) :: E2).map (·.2) = putF g D := by
  subst hE
  rw [List.map_append, List.map_cons] at hs ⊢
  rw [List.map_append, List.map_cons, putF, putBy_mid hs hn]
theorem kv_filter {E1 E2 : List (Nat × Fl)} {a : Nat} {f : Fl} (hs : SrtBy enm (E1 ++ (a, f) :: E2)) : (kvE (E1 ++ (a, f) :: E2)).filter (·.1 != f.name) = kvE (E1 ++ E2) := by
  have := delBy_mid hs
  unfold kvE
  rw [List.filter_map]
  have e : ((fun q : Bt × Value => q.1 != f.name) ∘ fun x : Nat × Fl => (x.2.name, Value.pointer (some ⟨x.1, 0, none⟩))) = fun x => enm x != f.name := rfl
  rw [e]
  have this : List.filter (fun x => enm x != f.name) (E1 ++ (a, f) :: E2) = E1 ++ E2 := this
  rw [this]
theorem kv_filter_none {n : Bt} (h : n ∉ (kvE E).map (·.1)) : (kvE E).filter (·.1 != n) = kvE E := List.filter_eq_self.2 fun q hq => by
  have : q.1 ≠ n := fun hc => h (List.mem_map.2 ⟨q, hq, hc⟩)
  simpa using this
theorem ba_add (a b : Bt) : (⟨a.toArray⟩ : ByteArray) ++ ⟨b.toArray⟩ = ⟨(a ++ b).toArray⟩ := by
  apply ByteArray.ext
  rw [ByteArray.data_append]
  simp
end
#print axioms disk_close
end Go.Proofs.YtdngjkjoahgelaaGreatDoor

namespace Go.Proofs.YtdngjkjoahgelaaGreatDoor
set_option linter.all false
set_option maxRecDepth 100000
set_option maxHeartbeats 1000000
open Go.RowKit
section
variable {B w w' : World} {L M : List HP} {p room mb : Nat} {D : Fls} {E : List (Nat × Fl)}
theorem pdnone (hc : w.cell? ⟨p, 2, none⟩ = some (.map (some mb))) : Calls Tryz.prog 43 #[.pointer (some ⟨p, 0, none⟩)] w fun y w' => y = .returned (.bool false) ∧ w' = w := by
  have qT : ∀ (w : World) (r : Option Nat), (binOp .eql 72 (.map r) (.map none)).run Tryz.prog w = .ok (.bool r.isNone) w := fun w r => run_eql_map_nil w _ _ _ r Tryz.underlying72
  go_enter Tryz.func43, Tryz.ntmps43
  go_wp2
  go_ret
  exact ⟨rfl, rfl⟩
theorem pdname (n : Bt) (hn : n.length ≤ 9223372036854775807) : Calls Tryz.prog 44 #[.string ⟨n.toArray⟩] w fun y w' => y = .returned (.bool (okName n)) ∧ w' = w := by
  obtain ⟨s, hs⟩ : ∃ s : ByteArray, s = ⟨n.toArray⟩ := ⟨_, rfl⟩
  have hl : s.toList = n := by rw [Lib.toList_data, hs]
  have hz : s.size = n.length := by rw [hs]; simp [ByteArray.size]
  rw [← hs]
  by_cases h0 : n = []
  · have e1 : s.toList.isEmpty = true := by rw [hl, h0]; rfl
    have e2 : s.toList = [] := by rw [hl, h0]
    have H := Lib.hid (show okName n = false by simp [okName, h0])
    clear hl hz hs h0
    go_enter Tryz.func44, Tryz.ntmps44
    go_wp2
    go_ret
    exact ⟨by rw [H.out]; rfl, rfl⟩
  · have e1 : s.toList.isEmpty = false := by rw [hl]; cases n with | nil => exact absurd rfl h0 | cons _ _ => rfl
    have hm : s.size ≤ 9223372036854775807 := by omega
    by_cases h1 : n.length ≤ 64
    · have h2 : (s.size : Int) ≤ 64 := by omega
      have h3 : s.size ≤ 64 := by omega
      have H := Lib.hid (show okName n = true by simp [okName, h0, h1])
      clear hl hz hs h0
      go_enter Tryz.func44, Tryz.ntmps44
      go_wp2
      go_ret
      exact ⟨by rw [H.out]; rfl, rfl⟩
    · have h2 : ¬ (s.size : Int) ≤ 64 := by omega
      have h3 : ¬ s.size ≤ 64 := by omega
      have H := Lib.hid (show okName n = false by simp [okName, h1])
      clear hl hz hs h0
      go_enter Tryz.func44, Tryz.ntmps44
      go_wp2
      go_ret
      exact ⟨by rw [H.out]; rfl, rfl⟩
/-- 'of': where a name's file lies. -/
theorem pof_some (h : Sat B (pt p (dkC room (usedD D) mb) :: smap mb (kvE E) :: L) w) {n : Bt} {a : Nat} {f : Fl} (hf : (a, f) ∈ E) (hn : f.name = n) :
    Calls Tryz.prog 46 #[.pointer (some ⟨p, 0, none⟩), .string ⟨n.toArray⟩] w fun y w' => y = .returned (.tuple #[.pointer (some ⟨a, 0, none⟩), .int .i64 0]) ∧ w' = w := by
  have hc : w.cell? ⟨p, 2, none⟩ = some (.map (some mb)) := h.pt_cell 2
  have hk := kv_mem hf
  rw [hn] at hk
  have h2 := h.swap
  go_enter Tryz.func46, Tryz.ntmps46
  go_wp2_with (first
    | (go_at_call 43; refine (pdnone hc).mono ?_; rintro y w1 ⟨rfl, rfl⟩)
    | (with_reducible refine wpList_lookup_hit rfl Tryz.underlying72 Tryz.underlying9 _ _ rfl rfl rfl h2 hk ?_; go_frame))
  go_ret2
  exact ⟨rfl, rfl⟩
theorem pof_none (h : Sat B (pt p (dkC room (usedD D) mb) :: smap mb (kvE E) :: L) w) {n : Bt} (hf : n ∉ (kvE E).map (·.1)) :
    Calls Tryz.prog 46 #[.pointer (some ⟨p, 0, none⟩), .string ⟨n.toArray⟩] w fun y w' => y = .returned (.tuple #[.pointer none, .int .i64 5]) ∧ w' = w := by
  have hc : w.cell? ⟨p, 2, none⟩ = some (.map (some mb)) := h.pt_cell 2
  have h2 := h.swap
  go_enter Tryz.func46, Tryz.ntmps46
  go_wp2_with (first
    | (go_at_call 43; refine (pdnone hc).mono ?_; rintro y w1 ⟨rfl, rfl⟩)
    | (with_reducible refine wpList_lookup_miss rfl Tryz.underlying72 Tryz.underlying9 rfl _ _ rfl rfl rfl h2 hf ?_; go_frame))
  go_ret2
  exact ⟨rfl, rfl⟩
end
end Go.Proofs.YtdngjkjoahgelaaGreatDoor

namespace Go.Proofs.YtdngjkjoahgelaaGreatDoor
set_option linter.all false
set_option maxRecDepth 100000
set_option maxHeartbeats 1000000
open Go.RowKit
abbrev bA (n : Bt) : ByteArray := ⟨n.toArray⟩
theorem bA_size (n : Bt) : (bA n).size = n.length := by simp [ByteArray.size]
section
variable {B w w' : World} {L M : List HP} {A0 A1 : HP} {p room mb a : Nat} {D : Fls} {E E1 E2 : List (Nat × Fl)} {f g : Fl} {n : Bt}
theorem file_out (h : Sat B (A0 :: A1 :: stars ((E1 ++ (a, f) :: E2).map flP) :: L) w) : Sat B (pt a (flC f) :: stars ((E1 ++ E2).map flP) :: A0 :: A1 :: L) w := by
  have h1 := h.p2
  rw [List.map_append, List.map_cons] at h1
  have h2 := h1.mid
  rw [← List.map_append] at h2
  exact h2
theorem file_in (h : Sat B (pt a (flC f) :: stars ((E1 ++ E2).map flP) :: A0 :: A1 :: L) w) : Sat B (A0 :: A1 :: stars ((E1 ++ (a, f) :: E2).map flP) :: L) w := by
  rw [List.map_append] at h
  have h2 := h.mid'
  rw [List.map_append, List.map_cons]
  exact h2.q2
theorem getF_len (hok : DOk room D) (h : getF n D = some f) : f.bytes.length ≤ 9223372036854775807 := by
  obtain ⟨l1, l2, e, _⟩ := getBy_some h
  have h1 := hok.used
  have h2 := hok.room
  rw [e, used_mid] at h1
  omega
/-- 'Sync'. -/
theorem pdSync (n : Bt) (h : Sat B (disk p room D :: L) w) :
    Calls Tryz.prog 40 #[.pointer (some ⟨p, 0, none⟩), .string (bA n)] w fun y w' => y = .returned (.int .i64 (syncD D n).1) ∧ Sat B (disk p room (syncD D n).2 :: L) w' := by
  obtain ⟨mb, E, hE, hok, h1⟩ := disk_open h
  cases hg : getF n D with
  | none =>
    have ho := pof_none h1 (kv_none hE hg)
    have H : Hid (syncD D n = (5, D)) := Lib.hid (by simp [syncD, hg])
    clear hg hE hok h1
    go_enter Tryz.func40, Tryz.ntmps40
    go_wp2_with (go_at_call 46; refine ho.mono ?_; rintro y w1 ⟨rfl, rfl⟩)
    go_ret
    rw [H.out]
    exact ⟨rfl, h⟩
  | some f =>
    obtain ⟨E1, E2, a, rfl, hn⟩ := at_file hE hg
    have ho := pof_some (D := D) h1 (List.mem_append_right E1 (List.mem_cons_self (a := (a, f)) (l := E2))) hn
    have H : Hid (syncD D n = (0, putF ⟨n, f.bytes, f.bytes.length⟩ D)) := Lib.hid (by simp [syncD, hg])
    have hl := getF_len hok hg
    have h2 := file_out h1
    have c0 : w.cell? ⟨a, 0, none⟩ = some (.string (bA f.bytes)) := h2.pt_cell 0
    have c1 : w.cell? ⟨a, 1, none⟩ = some (.int .i64 (f.synced : Int)) := h2.pt_cell 1
    have f1 := h2.pt_free 1
    have hs := bA_size f.bytes
    have hse : (bA f.bytes).size ≤ 9223372036854775807 := by omega
    have hfin : Sat B (disk p room (putF ⟨n, f.bytes, f.bytes.length⟩ D) :: L) (w.setCell ⟨a, 1, none⟩ (.int .i64 ((bA f.bytes).size : Int))) := by
      have h3 := h2.set (j := 1) (.int .i64 ((bA f.bytes).size : Int))
      rw [hs] at h3 ⊢
      have h4 := file_in (f := ⟨n, f.bytes, f.bytes.length⟩) h3
      refine disk_close (E := E1 ++ (a, ⟨n, f.bytes, f.bytes.length⟩) :: E2) (mb := mb) (put_same hE hok.srt hn.symm) (hok.put_same hg _ _ (Nat.le_refl _) (Nat.le_refl _)) ?_
      rw [kv_same (f := f) (g := ⟨n, f.bytes, f.bytes.length⟩) hn.symm]
      have hu : usedD (putF ⟨n, f.bytes, f.bytes.length⟩ D) = usedD D := by
        have := used_put_le (g := ⟨n, f.bytes, f.bytes.length⟩) (room := room) hok.srt hg
        simp at this ⊢; omega
      rw [hu]
      exact h4
    clear hs hg hE hok h1 h2 hn h hl
    go_enter Tryz.func40, Tryz.ntmps40
    go_wp2_with (go_at_call 46; refine ho.mono ?_; rintro y w1 ⟨rfl, rfl⟩)
    go_ret
    rw [H.out]
    exact ⟨rfl, hfin⟩
/-- 'Read'. -/
theorem pdRead (n : Bt) (h : Sat B (disk p room D :: L) w) :
    Calls Tryz.prog 19 #[.pointer (some ⟨p, 0, none⟩), .string (bA n)] w fun y w' => y = .returned (.tuple #[.string (bA (readD D n).1), .int .i64 (readD D n).2]) ∧ w' = w := by
  obtain ⟨mb, E, hE, hok, h1⟩ := disk_open h
  cases hg : getF n D with
  | none =>
    have ho := pof_none h1 (kv_none hE hg)
    have H : Hid (readD D n = ([], 5)) := Lib.hid (by simp [readD, hg])
    clear hg hE hok h1
    go_enter Tryz.func19, Tryz.ntmps19
    go_wp2_with (go_at_call 46; refine ho.mono ?_; rintro y w1 ⟨rfl, rfl⟩)
    go_ret2
    rw [H.out]
    exact ⟨rfl, rfl⟩
  | some f =>
    obtain ⟨E1, E2, a, rfl, hn⟩ := at_file hE hg
    have ho := pof_some (D := D) h1 (List.mem_append_right E1 (List.mem_cons_self (a := (a, f)) (l := E2))) hn
    have H : Hid (readD D n = (f.bytes, 0)) := Lib.hid (by simp [readD, hg])
    have h2 := file_out h1
    have c0 : w.cell? ⟨a, 0, none⟩ = some (.string (bA f.bytes)) := h2.pt_cell 0
    clear hg hE hok h1 h2 hn h
    go_enter Tryz.func19, Tryz.ntmps19
    go_wp2_with (go_at_call 46; refine ho.mono ?_; rintro y w1 ⟨rfl, rfl⟩)
    go_ret2
    rw [H.out]
    exact ⟨rfl, rfl⟩
/-- 'Synced'. -/
theorem pdSynced (n : Bt) (h : Sat B (disk p room D :: L) w) :
    Calls Tryz.prog 60 #[.pointer (some ⟨p, 0, none⟩), .string (bA n)] w fun y w' => y = .returned (.int .i64 (syncedOf n D : Int)) ∧ w' = w := by
  obtain ⟨mb, E, hE, hok, h1⟩ := disk_open h
  cases hg : getF n D with
  | none =>
    have ho := pof_none h1 (kv_none hE hg)
    have H : Hid (syncedOf n D = 0) := Lib.hid (by simp [syncedOf, hg])
    clear hg hE hok h1
    go_enter Tryz.func60, Tryz.ntmps60
    go_wp2_with (go_at_call 46; refine ho.mono ?_; rintro y w1 ⟨rfl, rfl⟩)
    go_ret
    rw [H.out]
    exact ⟨rfl, rfl⟩
  | some f =>
    obtain ⟨E1, E2, a, rfl, hn⟩ := at_file hE hg
    have ho := pof_some (D := D) h1 (List.mem_append_right E1 (List.mem_cons_self (a := (a, f)) (l := E2))) hn
    have H : Hid (syncedOf n D = f.synced) := Lib.hid (by simp [syncedOf, hg])
    have h2 := file_out h1
    have c1 : w.cell? ⟨a, 1, none⟩ = some (.int .i64 (f.synced : Int)) := h2.pt_cell 1
    clear hg hE hok h1 h2 hn h
    go_enter Tryz.func60, Tryz.ntmps60
    go_wp2_with (go_at_call 46; refine ho.mono ?_; rintro y w1 ⟨rfl, rfl⟩)
    go_ret
    rw [H.out]
    exact ⟨rfl, rfl⟩
end
end Go.Proofs.YtdngjkjoahgelaaGreatDoor

namespace Go.Proofs.YtdngjkjoahgelaaGreatDoor
set_option linter.all false
set_option maxRecDepth 100000
set_option maxHeartbeats 1000000
open Go.RowKit
section
variable {B w w' : World} {L M : List HP} {A0 A1 : HP} {p room mb a : Nat} {D : Fls} {E E1 E2 : List (Nat × Fl)} {f g : Fl} {n : Bt}
/-- 'Free'. -/
theorem pdFree (h : Sat B (disk p room D :: L) w) :
    Calls Tryz.prog 58 #[.pointer (some ⟨p, 0, none⟩)] w fun y w' => y = .returned (.int .i64 ((room : Int) - (usedD D : Int))) ∧ ∃ k, w' = w.drewN k := by
  obtain ⟨mb, E, hE, hok, h1⟩ := disk_open h
  have hc : w.cell? ⟨p, 2, none⟩ = some (.map (some mb)) := h1.pt_cell 2
  have c0 : w.cell? ⟨p, 0, none⟩ = some (.int .i64 (room : Int)) := h1.pt_cell 0
  have c1 : w.cell? ⟨p, 1, none⟩ = some (.int .i64 (usedD D : Int)) := h1.pt_cell 1
  have hn := pdnone hc
  obtain ⟨u, hu⟩ : ∃ u, usedD D = u := ⟨_, rfl⟩
  have h2 := hok.used
  have h3 := hok.room
  rw [hu] at c1 h2 ⊢
  clear hE hok h1 h hc hu
  go_enter Tryz.func58, Tryz.ntmps58
  go_wp2_with (go_at_call 43; refine hn.mono ?_; rintro y w1 ⟨rfl, rfl⟩)
  go_quiet (fail)
  go_wp2
  go_ret
  exact ⟨rfl, _, rfl⟩
/-- A file appended to: what the disk is then. -/
theorem append_close (hE : E.map (·.2) = D) (hok : DOk room D) (hg : getF n D = some f) (e : E = E1 ++ (a, f) :: E2) (d : Bt) (hr : usedD D + d.length ≤ room) (ho : okName n = true)
    (h : Sat B (pt a (flC ⟨n, f.bytes ++ d, f.synced⟩) :: stars ((E1 ++ E2).map flP) :: pt p (dkC room (usedD D + d.length) mb) :: smap mb (kvE E) :: L) w) : Sat B (disk p room (appendD room D n d).2 :: L) w := by
  subst e
  have hn : f.name = n := by simpa using List.find?_some hg
  have ha : appendD room D n d = (0, putF ⟨n, f.bytes ++ d, f.synced⟩ D) := by simp [appendD, ho, hg, bytesOf, syncedOf]; omega
  have h4 := file_in (f := ⟨n, f.bytes ++ d, f.synced⟩) h
  have hok2 := hok.append n d
  rw [ha] at hok2 ⊢
  refine disk_close (E := E1 ++ (a, ⟨n, f.bytes ++ d, f.synced⟩) :: E2) (mb := mb) (put_same hE hok.srt hn.symm) hok2 ?_
  rw [kv_same (f := f) (g := ⟨n, f.bytes ++ d, f.synced⟩) hn.symm]
  have hu : usedD (putF ⟨n, f.bytes ++ d, f.synced⟩ D) = usedD D + d.length := by
    have := used_put_le (g := ⟨n, f.bytes ++ d, f.synced⟩) (room := room) hok.srt hg
    simp at this ⊢; omega
  rw [hu]
  exact h4
/-- A new file. -/
theorem new_close (hE : E.map (·.2) = D) (hok : DOk room D) (hg : getF n D = none) (d : Bt) (hr : usedD D + d.length ≤ room) (ho : okName n = true)
    (h : Sat B (pt a (flC ⟨n, d, 0⟩) :: pt p (dkC room (usedD D + d.length) mb) :: smap mb ((n, .pointer (some ⟨a, 0, none⟩)) :: kvE E) :: stars (E.map flP) :: L) w) : Sat B (disk p room (appendD room D n d).2 :: L) w := by
  have ha : appendD room D n d = (0, putF ⟨n, d, 0⟩ D) := by simp [appendD, ho, hg, bytesOf, syncedOf]; omega
  have hok2 := hok.append n d
  rw [ha] at hok2 ⊢
  have hsE := srtE hE hok.srt
  have hgE : ∀ x ∈ E, enm x ≠ n := fun x hx => by
    have := getBy_none hg x.2 (by rw [← hE]; exact List.mem_map.2 ⟨x, hx, rfl⟩)
    exact this
  obtain ⟨E1, E2, e1, e2, e3⟩ := putBy_new (nm := enm) (y := (a, (⟨n, d, 0⟩ : Fl))) hsE hgE
  subst e1
  have hu : usedD (putF ⟨n, d, 0⟩ D) = usedD D + d.length := used_put_new hok.srt hg
  refine disk_close (E := E1 ++ (a, ⟨n, d, 0⟩) :: E2) (mb := mb) ?_ hok2 ?_
  · rw [← e2, putBy_map (nm := enm) (mm := Fl.name) (fun x : Nat × Fl => x.2) (fun _ => rfl), hE]
  · rw [hu]
    have h2 := (h.p2.smap_perm (kvs' := kvE (E1 ++ (a, ⟨n, d, 0⟩) :: E2)) (by simp only [kvE, List.map_append, List.map_cons]; exact List.perm_middle)).q2
    exact file_in (f := ⟨n, d, 0⟩) h2.p3.swap
theorem ap_ok {d : Bt} (ho : okName n = true) (hr : usedD D + d.length ≤ room) : appendD room D n d = (0, putF ⟨n, bytesOf n D ++ d, syncedOf n D⟩ D) := by
  unfold appendD; rw [if_neg (by simp [ho]), if_neg (by omega)]
theorem ap_full {d : Bt} (ho : okName n = true) (hr : room < usedD D + d.length) : appendD room D n d = (7, D) := by
  unfold appendD; rw [if_neg (by simp [ho]), if_pos hr]
/-- 'Append'. -/
theorem pdAppend (n d : Bt) (hnl : n.length ≤ 9223372036854775807) (hdl : d.length ≤ 9223372036854775807) (h : Sat B (disk p room D :: L) w) :
    Calls Tryz.prog 17 #[.pointer (some ⟨p, 0, none⟩), .string (bA n), .string (bA d)] w fun y w' => y = .returned (.int .i64 (appendD room D n d).1) ∧ Sat B (disk p room (appendD room D n d).2 :: L) w' := by
  obtain ⟨mb, E, hE, hok, h1⟩ := disk_open h
  have hc : w.cell? ⟨p, 2, none⟩ = some (.map (some mb)) := h1.pt_cell 2
  have hno := pdnone hc
  have hnm := pdname (w := w) n hnl
  cases ho : okName n with
  | false =>
    have H : Hid (appendD room D n d = (2, D)) := Lib.hid (by simp [appendD, ho])
    rw [ho] at hnm
    clear ho hE hok h1 hc
    go_enter Tryz.func17, Tryz.ntmps17
    go_wp2_with (first
      | (go_at_call 43; refine hno.mono ?_; rintro y w1 ⟨rfl, rfl⟩)
      | (go_at_call 44; refine hnm.mono ?_; rintro y w1 ⟨rfl, rfl⟩))
    go_ret
    rw [H.out]
    exact ⟨rfl, h⟩
  | true =>
    rw [ho] at hnm
    have hds := bA_size d
    have c0 : w.cell? ⟨p, 0, none⟩ = some (.int .i64 (room : Int)) := h1.pt_cell 0
    have c1 : w.cell? ⟨p, 1, none⟩ = some (.int .i64 (usedD D : Int)) := h1.pt_cell 1
    have h2 := hok.used
    have h3 := hok.room
    by_cases hr : usedD D + d.length ≤ room
    · have hlt : ¬ ((bA d).size : Int) > (room : Int) - (usedD D : Int) := by omega
      have hsz : (bA d).size ≤ 9223372036854775807 := by omega
      cases hg : getF n D with
      | none =>
        have hkv := kv_none hE hg
        have H : Hid ((appendD room D n d).1 = 0) := Lib.hid (by rw [ap_ok ho hr])
        have hcl := fun (a : Nat) (w9 : World) => new_close (L := L) (p := p) (a := a) (mb := mb) (w := w9) (B := B) hE hok hg d hr ho
        have hper : ∀ v : Value, ((n, v) :: kvE E).Perm ((n, v) :: (kvE E).filter (·.1 != n)) := fun v => by rw [kv_filter_none hkv]
        clear ho hE hok hg
        go_enter Tryz.func17, Tryz.ntmps17
        go_wp2_with (first
          | (go_at_call 43; refine hno.mono ?_; rintro y w1 ⟨rfl, rfl⟩)
          | (go_at_call 44; refine hnm.mono ?_; rintro y w1 ⟨rfl, rfl⟩))
        go_quiet (fail)
        have h4 := h1.drewN nq
        generalize w1.drewN nq = w2 at h4 ⊢
        have c2 : w2.cell? ⟨p, 2, none⟩ = some (.map (some mb)) := h4.pt_cell 2
        have h5 := h4.alloc' (.cells #[.string ⟨#[]⟩, .int .i64 0] 91) (n := w2.heap.size) rfl
        have c3 : (w2.alloc (.cells #[.string ⟨#[]⟩, .int .i64 0] 91)).cell? ⟨p, 2, none⟩ = some (.map (some mb)) := h5.swap.pt_cell 2
        go_wp2_with (first
          | (with_reducible refine wpList_lookup_miss rfl Tryz.underlying72 Tryz.underlying9 rfl _ _ rfl rfl rfl h4.swap hkv ?_; go_frame)
          | (at_mapUpdate; refine wpList_mapUpdate rfl Tryz.underlying72 Tryz.underlying9 _ _ _ rfl rfl rfl rfl h5.p2 _ (hper (.pointer (some ⟨w2.heap.size, 0, none⟩))) ?_; intro w6 h6; go_frame; have h7 := h6.q2; have c4 : w6.cell? ⟨w2.heap.size, 0, none⟩ = some (.string ⟨#[]⟩) := h7.pt_cell 0; have f4 := h7.pt_free 0; have c5 : w6.cell? ⟨p, 1, none⟩ = some (.int .i64 (usedD D : Int)) := h7.swap.pt_cell 1; have f5 := h7.swap.pt_free 1))
        have h8 := (h7.set (j := 0) (.string (⟨#[]⟩ ++ bA d))).swap.set (j := 1) (.int .i64 ((usedD D : Int) + (d.length : Int)))
        go_ret
        rw [H.out]
        refine ⟨rfl, hcl w2.heap.size _ ?_⟩
        have e1 : (⟨#[]⟩ : ByteArray) ++ bA d = bA d := by apply ByteArray.ext; rw [ByteArray.data_append]; simp
        rw [e1] at h8 ⊢
        exact h8.swap
      | some f =>
        obtain ⟨E1, E2, a, rfl, hn⟩ := at_file hE hg
        have hk := kv_mem (List.mem_append_right E1 (List.mem_cons_self (a := (a, f)) (l := E2)))
        rw [hn] at hk
        have H : Hid ((appendD room D n d).1 = 0) := Lib.hid (by rw [ap_ok ho hr])
        have hcl := fun (w9 : World) => append_close (L := L) (p := p) (a := a) (mb := mb) (w := w9) (B := B) hE hok hg rfl d hr ho
        have hfl := getF_len hok hg
        have hfs := bA_size f.bytes
        have hfu : f.bytes.length + d.length ≤ 9223372036854775807 := by
          obtain ⟨l1, l2, e, _⟩ := getBy_some hg
          have h5 := used_mid l1 l2 f
          rw [← e] at h5
          omega
        clear ho hE hok hg hn
        go_enter Tryz.func17, Tryz.ntmps17
        go_wp2_with (first
          | (go_at_call 43; refine hno.mono ?_; rintro y w1 ⟨rfl, rfl⟩)
          | (go_at_call 44; refine hnm.mono ?_; rintro y w1 ⟨rfl, rfl⟩))
        go_quiet (fail)
        have h4 := h1.drewN nq
        generalize w1.drewN nq = w2 at h4 ⊢
        have c2 : w2.cell? ⟨p, 2, none⟩ = some (.map (some mb)) := h4.pt_cell 2
        have c5 : w2.cell? ⟨p, 1, none⟩ = some (.int .i64 (usedD D : Int)) := h4.pt_cell 1
        have f5 := h4.pt_free 1
        have h6 := file_out h4
        have c4 : w2.cell? ⟨a, 0, none⟩ = some (.string (bA f.bytes)) := h6.pt_cell 0
        have f4 := h6.pt_free 0
        go_wp2_with (with_reducible refine wpList_lookup_hit rfl Tryz.underlying72 Tryz.underlying9 _ _ rfl rfl rfl h4.swap hk ?_; go_frame)
        have h8 := (h6.set (j := 0) (.string (bA f.bytes ++ bA d))).p2.set (j := 1) (.int .i64 ((usedD D : Int) + (d.length : Int)))
        go_ret
        rw [H.out]
        refine ⟨rfl, hcl _ ?_⟩
        rw [ba_add] at h8 ⊢
        exact h8.q2
    · have hlt : ((bA d).size : Int) > (room : Int) - (usedD D : Int) := by omega
      have H : Hid (appendD room D n d = (7, D)) := Lib.hid (ap_full ho (by omega))
      clear ho hE hok hc
      go_enter Tryz.func17, Tryz.ntmps17
      go_wp2_with (first
        | (go_at_call 43; refine hno.mono ?_; rintro y w1 ⟨rfl, rfl⟩)
        | (go_at_call 44; refine hnm.mono ?_; rintro y w1 ⟨rfl, rfl⟩))
      go_quiet (fail)
      go_wp2
      go_ret
      rw [H.out]
      exact ⟨rfl, h.drewN _⟩
end
end Go.Proofs.YtdngjkjoahgelaaGreatDoor
