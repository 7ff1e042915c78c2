/-
  disk: List.
-/
import Derived.Test.YtdngjkjoahgelaaGreatDoorDk5
import Derived.Test.YtdngjkjoahgelaaGreatDoorExXH
import Derived.Test.YtdngjkjoahgelaaGreatDoorShelfS
namespace Go.Proofs.YtdngjkjoahgelaaGreatDoor
set_option linter.all false
set_option maxRecDepth 100000
set_option maxHeartbeats 1000000
open Go.RowKit Go.Maps Go.Sort
theorem sortsB (m : Nat) : AnyZ.SortsIn Tryz.prog Tryz.sortedA_ren Fence.wide m :=
  ⟨fun blk off cap ss W hH hblk hsz => callsIn_wide.2 (AnyM.slices_Sort_string Tryz.sortA blk off cap ss W hH hblk hsz),
   fun p cap W => callsIn_wide.2 (AnyM.slices_Sort_string_none Tryz.sortA p cap W)⟩
section
variable {B w w' : World} {L M : List HP} {p room mb : Nat} {D : Fls}
theorem lt_sorted {l : List Bt} (h : l.Pairwise (· < ·)) : l.mergeSort (fun x y => decide (x ≤ y)) = l :=
  List.mergeSort_of_pairwise (h.imp fun h => by simpa using List.le_of_lt h)
/-- slices.Sorted(maps.Keys(m)). -/
theorem psorted {kvs : List (Bt × Value)} {bm : Nat} (h : Sat B (smap mb kvs :: L) w) (hB : bm < w.heap.size) (hm : w.cell? ⟨bm, 0, none⟩ = some (.map (some mb))) (hlen : kvs.length ≤ 1000000) (hk : ∀ k ∈ kvs.map (·.1), k.length ≤ 1000000) :
    Calls Tryz.prog 65 #[.func (.func 92) #[] #[.pointer (some ⟨bm, 0, none⟩)]] w fun y w' => ∃ v, y = .returned v ∧
      Sat B (row 9 1 v kvs.length (strB ((kvs.map (·.1)).mergeSort (fun x y => decide (x ≤ y)))) :: smap mb kvs :: L) w' := by
  obtain ⟨es, cl, hb, hmo⟩ := h.smap_at
  have hperm : (es.toList.map (·.key)).Perm ((kvs.map (·.1)).map encStr) := by
    have := hmo.perm.map (·.1)
    rw [List.map_map, List.map_map] at this
    rw [List.map_map]
    exact this
  obtain ⟨ks, hks, hkp⟩ : ∃ ks : List Bt, es.toList.map (·.key) = ks.map encStr ∧ ks.Perm (kvs.map (·.1)) := by
    have hall : ∀ v ∈ es.toList.map (·.key), ∃ k, v = encStr k := fun v hv => by
      obtain ⟨k, _, e⟩ := List.mem_map.1 (hperm.mem_iff.1 hv)
      exact ⟨k, e.symm⟩
    obtain ⟨ks, hks⟩ : ∃ ks : List Bt, es.toList.map (·.key) = ks.map encStr := by
      generalize es.toList.map (·.key) = l at hall
      induction l with
      | nil => exact ⟨[], rfl⟩
      | cons v l ih =>
        obtain ⟨k, rfl⟩ := hall v (by simp)
        obtain ⟨ks, hks⟩ := ih fun v hv => hall v (by simp [hv])
        exact ⟨k :: ks, by rw [hks]; rfl⟩
    refine ⟨ks, hks, ?_⟩
    rw [hks] at hperm
    have := hperm.map (fun v : Value => match v with | .string s => s.data.toList | _ => [])
    rw [List.map_map, List.map_map] at this
    have e : ((fun v : Value => match v with | .string s => s.data.toList | _ => []) ∘ encStr) = id := by funext x; simp [encStr]
    rw [e, List.map_id, List.map_id] at this
    exact this
  obtain ⟨Dm, hown, hpk, hsz⟩ := Ex.keys_own Tryz.underlying9 hb hks (fun x hx => hk x (hkp.mem_iff.1 hx)) (by rw [hkp.length_eq, List.length_map]; exact hlen) (hkp.nodup_iff.2 hmo.keys) hmo.born hmo.nodup
  have hseq : SeqGives Fence.wide 2 Tryz.prog 92 #[.pointer (some ⟨bm, 0, none⟩)] encStr (fun ss => ss.Perm (strKeys Dm)) (Maps.size Dm) w :=
    AnyZ.keys_gives (ρ := Tryz.keysA_ren) { Tryz.keysA with } Fence.wide 2 trivial rfl (by omega) bm mb _ Dm w hB hm hown
  have hc := AnyZ.sorted_in Tryz.sortedA Fence.wide 5 trivial trivial trivial trivial rfl (by omega) (sortsB _) (enters_of Tryz.func91 (by kernel_rfl) rfl) 92 #[.pointer (some ⟨bm, 0, none⟩)] trivial (enters_of Tryz.func92 (by kernel_rfl) rfl)
    (fun ss => ss.Perm (strKeys Dm)) (Maps.size Dm) (by rw [hsz, hkp.length_eq, List.length_map]; unfold maxLen; omega) (by rw [hsz, hkp.length_eq, List.length_map]; omega) w hseq
  refine callsIn_wide.1 (hc.mono ?_)
  rintro e w' ⟨v, ss, rfl, hp, hrow, _, hbel⟩
  have hp2 : ss.Perm (kvs.map (·.1)) := (hp.trans hpk).trans hkp
  have hms : ss.mergeSort (fun x y => decide (x ≤ y)) = (kvs.map (·.1)).mergeSort (fun x y => decide (x ≤ y)) := mergeSort_of_perm hp2
  rw [hms, hp2.length_eq, List.length_map] at hrow
  refine ⟨v, rfl, h.of_owns hbel hrow ?_⟩
  intro u hu
  obtain ⟨b, _, rfl⟩ := List.mem_map.1 hu
  rfl
theorem pKeys (w : World) : Calls Tryz.prog 66 #[.map (some mb)] w fun y w' => y = .returned (.func (.func 92) #[] #[.pointer (some ⟨w.heap.size, 0, none⟩)]) ∧
    w' = w.alloc (.cells #[.map (some mb)] 72) := by
  go_enter Tryz.func66, Tryz.ntmps66
  go_wp2
  go_ret
  exact ⟨rfl, rfl⟩
theorem pIndexNil (fv : Value) (w : World) : Calls Tryz.prog 89 #[.slice none 0 0, fv] w fun y w' => y = .returned (.int .i64 (-1)) ∧ w' = w := by
  go_enter Tryz.func89, Tryz.ntmps89
  go_wp2_with fail
  go_loopg [8] 1 (fun gh v8 wr => v8 = .int .i64 0 ∧ wr = w)
  case atStart => exact ⟨rfl, rfl⟩
  case round =>
    obtain ⟨rfl, rfl⟩ := hrel
    go_wp2_with fail
    go_ret
    exact ⟨rfl, rfl⟩
theorem pDeleteNil (fv : Value) (w : World) : Calls Tryz.prog 64 #[.slice none 0 0, fv] w fun y w' => y = .returned (.slice none 0 0) ∧ w' = w := by
  go_enter Tryz.func64, Tryz.ntmps64
  go_wp2_with (go_at_call 89; refine (pIndexNil _ _).mono ?_; rintro y w1 ⟨rfl, rfl⟩)
  go_ret
  exact ⟨rfl, rfl⟩
/-- 'List'. -/
theorem pdList (pre : Bt) (h : Sat B (disk p room D :: L) w) (hlen : D.length ≤ 1000000) :
    Calls Tryz.prog 34 #[.pointer (some ⟨p, 0, none⟩), .string (bA pre)] w fun y w' => ∃ v, y = .returned v ∧ Sat B (row 9 1 v (listD D pre).length (strB (listD D pre)) :: disk p room D :: L) w' := by
  obtain ⟨mb, E, hE, hok, h1⟩ := disk_open h
  have hkn : (kvE E).map (·.1) = D.map (·.name) := by rw [← hE, kvE, List.map_map, List.map_map]; rfl
  have hkl : (kvE E).length = D.length := by have := congrArg List.length hkn; simpa using this
  have hkk : ∀ k ∈ (kvE E).map (·.1), k.length ≤ 1000000 := fun k hk => by
    rw [hkn] at hk
    obtain ⟨f, hf, rfl⟩ := List.mem_map.1 hk
    have := hok.names f hf; omega
  have hst : ((kvE E).map (·.1)).mergeSort (fun x y => decide (x ≤ y)) = D.map (·.name) := by rw [hkn]; exact lt_sorted (List.pairwise_map.2 hok.srt)
  have hcl : ∀ (v : Value) (w9 : World), Sat B (row 9 1 v (listD D pre).length (strB (listD D pre)) :: smap mb (kvE E) :: pt p (dkC room (usedD D) mb) :: stars (E.map flP) :: L) w9 → Sat B (row 9 1 v (listD D pre).length (strB (listD D pre)) :: disk p room D :: L) w9 := fun v w9 h9 =>
    (disk_close (L := row 9 1 v (listD D pre).length (strB (listD D pre)) :: L) hE hok (by
      have := h9.q3
      exact this.swap)).swap
  have h2 := h1.alloc' (.cells #[.string (bA pre)] 9) (n := w.heap.size) rfl
  have c2 := h2.swap.pt_cell 2
  have hb0 : (w.alloc (.cells #[.string (bA pre)] 9)).heap.size = w.heap.size + 1 := by simp
  have hno := pdnone (w := w.alloc (.cells #[.string (bA pre)] 9)) (p := p) (mb := mb) c2
  have c2 : (w.alloc (.cells #[.string (bA pre)] 9)).cell? ⟨p, 2, none⟩ = some (.map (some mb)) := c2
  obtain ⟨bp, hbp⟩ : ∃ bp, w.heap.size = bp := ⟨_, rfl⟩
  rw [hbp] at h2 hb0
  obtain ⟨w1, hw1⟩ : ∃ w1, w.alloc (.cells #[.string (bA pre)] 9) = w1 := ⟨_, rfl⟩
  have H1 := Lib.hid hw1
  have Hbp := Lib.hid hbp
  rw [hw1] at h2 c2 hno hb0
  have h3 := h2.alloc' (.cells #[.map (some mb)] 72) (n := w1.heap.size) rfl
  have c3 : (w1.alloc (.cells #[.map (some mb)] 72)).cell? ⟨w1.heap.size, 0, none⟩ = some (.map (some mb)) := h3.pt_cell 0
  have hsz : w1.heap.size < (w1.alloc (.cells #[.map (some mb)] 72)).heap.size := by simp
  -- pt bm :: pt bp :: pt p :: smap :: stars
  have hso := psorted h3.p3 hsz c3 (by rw [hkl]; exact hlen) hkk
  rw [hst, hkl] at hso
  clear hw1 hbp hkn hkk hst c3 hsz h3 h2 h1 h hok hE hb0
  go_enter Tryz.func34, Tryz.ntmps34
  go_wp2_with fail
  rw [H1.out, Hbp.out]
  refine hno.mono ?_
  rintro y w2 ⟨rfl, hw2⟩
  subst hw2
  go_wp2_with fail
  refine (pKeys _).mono ?_
  rintro y w3 ⟨rfl, rfl⟩
  go_wp2_with fail
  refine hso.mono ?_
  rintro y w4 ⟨v, rfl, h4⟩
  rcases h4.row_form with ⟨rfl, hl0, hx0⟩ | ⟨g, off, cap, rfl, hg⟩
  · have hD : D = [] := List.eq_nil_of_length_eq_zero hl0
    have HD := Lib.hid hD
    clear hD hl0 hx0 hso hno
    go_wp2_with fail
    refine (pDeleteNil _ _).mono ?_
    rintro y w5 ⟨rfl, rfl⟩
    go_wp2_with fail
    go_ret
    refine ⟨_, rfl, hcl _ _ ?_⟩
    have e : listD D pre = [] := by rw [HD.out]; rfl
    rw [e]
    have h5 := h4.drop.row_nil 9 1
    exact (h5.p2.drop.p2.drop)
  · have hf : ∀ ys, Dels (row 9 1 (.slice (some ⟨g, off, none⟩) D.length cap) D.length (strB ys) :: smap mb (kvE E) :: pt w2.heap.size (.cells #[.map (some mb)] 72) :: pt bp (.cells #[.string (bA pre)] 9) :: pt p (dkC room (usedD D) mb) :: stars (E.map flP) :: L) B (.pointer (some ⟨bp, 0, none⟩)) (fun s => pre.isPrefixOf s) :=
      fun ys s w9 h9 => pdDel s (h9.p3.pt_cell 0)
    have hdl := pDeleteFunc hf h4
    clear hg hso hno hf
    go_wp2_with fail
    refine hdl.mono ?_
    rintro y w5 ⟨v, rfl, h5⟩
    go_wp2_with fail
    go_ret
    refine ⟨_, rfl, hcl _ _ ?_⟩
    exact h5.p2.drop.p2.drop
end
end Go.Proofs.YtdngjkjoahgelaaGreatDoor
