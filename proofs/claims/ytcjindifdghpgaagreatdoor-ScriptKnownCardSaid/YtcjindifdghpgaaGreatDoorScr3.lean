/-
  Script: the library's functions that it calls, by contracts: numerals, texts cut, a builder; the document's digits.
-/
import Derived.Test.YtcjindifdghpgaaGreatDoorProg
import Derived.Test.YtcjindifdghpgaaGreatDoorShelf
import Derived.Test.YtcjindifdghpgaaGreatDoorSlA
import Derived.Test.YtcjindifdghpgaaGreatDoorSlStr
import Derived.Test.YtcjindifdghpgaaGreatDoorScrP
import Derived.Lib.AppendIntMem
import Derived.Deep.LoopGhost
import Derived.Lib.Hide
import Derived.BigRegion
import Derived.Deep.RegionWith
namespace Go.Proofs.YtcjindifdghpgaaGreatDoor
open Go.RowKit
open Go.Sort hiding Holds
/-- What the package-level variables hold, in the world ahead. -/
structure Env (B : World) : Prop where
  pow : Lib.TabIs Tryz.prog B "internal/strconv.uint64pow10" .u64 Lib.pow10Tab
  synt : ∃ tp p, B.cell? ⟨5, 0, none⟩ = some (.iface tp p)
  rng : ∃ tp p, B.cell? ⟨6, 0, none⟩ = some (.iface tp p)
  mlen : ∃ m, B.cell? ⟨4, 0, none⟩ = some (.int .i64 m)
section
variable {B w : World} {L : List HP}
theorem cell_below {w w' : World} (hb : Below w.heap.size w w') {a : Addr} {v : Value} (h : w.cell? a = some v) : w'.cell? a = some v := by
  rw [World.cell?_of_block (hb.block a.block (block_lt_of_cell h))]; exact h
theorem tab_below {w w' : World} (hb : Below w.heap.size w w') {n : String} {k : IntKind} {zs : List Int} (h : Lib.TabIs Tryz.prog w n k zs) : Lib.TabIs Tryz.prog w' n k zs := by
  unfold Lib.TabIs World.var? at *
  cases hg : Tryz.prog.globalNamed n with
  | none => simp [hg] at h
  | some g =>
    simp only [hg, Option.bind_some] at h ⊢
    have hlt : g < w.heap.size := by
      rcases Nat.lt_or_ge g w.heap.size with h' | h'
      · exact h'
      · simp [Array.getElem?_eq_none h'] at h
    rw [hb.block g hlt]; exact h
theorem Env.below {w w' : World} (h : Env w) (hb : Below w.heap.size w w') : Env w' :=
  ⟨tab_below hb h.pow, by obtain ⟨a, b, e⟩ := h.synt; exact ⟨a, b, cell_below hb e⟩, by obtain ⟨a, b, e⟩ := h.rng; exact ⟨a, b, cell_below hb e⟩, by obtain ⟨a, e⟩ := h.mlen; exact ⟨a, cell_below hb e⟩⟩
theorem Env.at (h : Env B) (hS : Sat B L w) : Env w := h.below hS.below

/-! ### Numerals -/
theorem pitoa (hE : Env B) (h : Sat B L w) (n : Nat) (hn : n ≤ 9223372036854775807) :
    Calls Tryz.prog 23 #[.int .i64 n] w fun e w' => e = .returned (.string ⟨(Lib.decDigits n).toArray⟩) ∧ Sat B L w' := by
  refine (Tryz.strconv_Itoa n (by omega) (by omega) w (hE.at h).pow).mono ?_
  rintro e w' ⟨rfl, k, os, rfl⟩
  have e1 : Lib.itoa (n : Int) = Lib.decDigits n := by unfold Lib.itoa; rw [if_neg (by omega)]; rfl
  exact ⟨by rw [e1], h.of_below (Lib.below_grow _ w (Nat.le_refl _) k os)⟩

set_option maxHeartbeats 1000000 in
set_option maxRecDepth 100000 in
theorem pfmt0 (hE : Env B) (h : Sat B L w) (u : Nat) (hu : u < 18446744073709551616) :
    Calls Tryz.prog 70 #[.int .u64 u, .int .i64 10] w fun e w' => e = .returned (.string ⟨(Lib.decDigits u).toArray⟩) ∧ Sat B L w' := by
  by_cases hs : u < 100
  · go_enter Tryz.func70, Tryz.ntmps70
    go_wp2_with (go_at_call 96; refine (Tryz.internal_strconv_small u hs _).mono ?_; rintro e w' ⟨rfl, rfl⟩)
    go_ret
    exact ⟨rfl, h⟩
  · have hu1 : 1 ≤ u := by omega
    have hnd20 : Lib.nDigits u ≤ 20 := by have := Lib.numDigits_eq u hu1 hu; split at this <;> omega
    obtain ⟨nd, hnd⟩ : ∃ nd, Lib.nDigits u = nd := ⟨_, rfl⟩
    have hal : Tryz.prog.arrayLen 164 = 24 := by simp [Program.arrayLen, Tryz.underlying164]
    have hsl1 : ∀ W, (Instr.sliceAt 164 (.pointer (some ⟨w.heap.size, 0, none⟩)) none (some (.int .i64 (nd : Int))) none).run Tryz.prog W = .ok (.slice (some ⟨w.heap.size, 0, none⟩) nd 24) W := fun W => by
      rw [run_sliceAt_array_h W 164 ⟨w.heap.size, 0, none⟩ (by simp [Program.arrayLen, Program.elem, Tryz.underlying164]) .i64 (nd : Int) (by omega) (by rw [hal]; omega)]
      go_simp
    have hH0 := Lib.holds_zero0 w 164 (Lib.nDigits u) (by omega)
    have hfmt := Tryz.internal_strconv_formatBase10 w.heap.size 0 24 u (Array.replicate (Lib.nDigits u) 0) (w.alloc (.cells Lib.zeros24 164)) hH0 (by rw [Array.size_replicate]; exact Lib.lt_pow_nDigits u) hu (by rw [Array.size_replicate]; omega)
    rw [Array.size_replicate, hnd] at hfmt
    have HH0 := Lib.hid hH0
    have hpow := Lib.tabIs_alloc (hE.at h).pow (.cells Lib.zeros24 164)
    clear hH0 hal
    go_enter Tryz.func70, Tryz.ntmps70
    go_wp2_with (go_at_call 97; refine (Tryz.internal_strconv_numDigits u hu1 hu _ hpow).mono ?_; rintro e w' ⟨rfl, rfl⟩; rw [hnd])
    refine hfmt.mono ?_
    rintro e w' ⟨rfl, k, v', dk, rfl, hF⟩
    have hcv : (convert 23 9 (.slice (some ⟨w.heap.size, 0, none⟩) nd 24)).run Tryz.prog ((putRow (fun (b : UInt8) => Value.int .u8 (b.toNat : Int)) (w.alloc (.cells Lib.zeros24 164)) w.heap.size 0 dk).drewN k) = .ok (.string ⟨(Lib.decDigits u).toArray⟩) ((putRow (fun (b : UInt8) => Value.int .u8 (b.toNat : Int)) (w.alloc (.cells Lib.zeros24 164)) w.heap.size 0 dk).drewN k) := by
      have h := run_convert_bytes_back (P := Tryz.prog) ((putRow (fun (b : UInt8) => Value.int .u8 (b.toNat : Int)) (w.alloc (.cells Lib.zeros24 164)) w.heap.size 0 dk).drewN k) 23 9 5 ⟨w.heap.size, 0, none⟩ 24 (Lib.decDigits u) Tryz.underlying23 Tryz.underlying5 Tryz.underlying9 (fun j hj => by
        rw [← hnd] at hF
        rw [Lib.row_is_numeral hF j hj, Lib.add_plain, World.cell?_drewN]
        exact cell?_putRow (fun (b : UInt8) => Value.int .u8 (b.toNat : Int)) _ w.heap.size 0 _ dk HH0.out (by rw [hF.size, Array.size_replicate]) j (by rw [hF.size]; rw [Lib.decDigits_length] at hj; exact hj))
      rw [Lib.decDigits_length, hnd] at h
      exact h
    go_wp2_with fail
    go_ret
    have eo : ∃ os, (putRow (fun (b : UInt8) => Value.int .u8 (b.toNat : Int)) (w.alloc (.cells Lib.zeros24 164)) w.heap.size 0 dk).drewN k = grow (w.drewN k) os := by
      rw [alloc_eq_grow]
      obtain ⟨os', _, e⟩ := putRow_grow_new (fun (b : UInt8) => Value.int .u8 (b.toNat : Int)) w #[.cells Lib.zeros24 164] w.heap.size 0 dk (Nat.le_refl _)
      exact ⟨os', by rw [e]; rfl⟩
    obtain ⟨os, eo⟩ := eo
    exact ⟨rfl, h.of_below (by rw [eo]; exact Lib.below_grow _ w (Nat.le_refl _) k os)⟩
theorem pfmt (hE : Env B) (h : Sat B L w) (u : Nat) (hu : u < 18446744073709551616) :
    Calls Tryz.prog 45 #[.int .u64 u, .int .i64 10] w fun e w' => e = .returned (.string ⟨(Lib.decDigits u).toArray⟩) ∧ Sat B L w' := by
  go_enter Tryz.func45, Tryz.ntmps45
  go_wp2_with (go_at_call 70; refine (pfmt0 hE h u hu).mono ?_; rintro e w' ⟨rfl, h'⟩)
  go_ret
  exact ⟨rfl, h'⟩

/-! ### Texts cut at a byte -/
def strL (l : List Bs) : List Value := l.map fun b => .string ⟨b.toArray⟩
theorem strL_one (l : List Bs) : ∀ u ∈ strL l, u.oneCell' = true := by
  intro u hu
  obtain ⟨b, _, rfl⟩ := List.mem_map.1 hu
  rfl
theorem psplit (hE : Env B) (h : Sat B L w) (s : ByteArray) (c : UInt8) (hs : s.size < 4294967281) :
    Calls Tryz.prog 26 #[.string s, .string ⟨#[c]⟩] w fun e w' => ∃ g, e = .returned (.slice (some ⟨g, 0, none⟩) (splL c s.data.toList).length (splL c s.data.toList).length) ∧
      Sat B (row 9 1 (.slice (some ⟨g, 0, none⟩) (splL c s.data.toList).length (splL c s.data.toList).length) (splL c s.data.toList).length (strL (splL c s.data.toList)) :: L) w' := by
  obtain ⟨m, hm⟩ := (hE.at h).mlen
  refine (Tryz.strings_Split s ⟨#[c]⟩ m w hs hm (Nat.le_refl 1)).mono ?_
  rintro e w' ⟨rfl, rfl⟩
  have e0 : Lib.countB s ⟨#[c]⟩ = s.data.toList.count c := Lib.count_one c s.data.toList
  have e1 : (Lib.splitB ⟨#[c]⟩ 0 (Lib.countB s ⟨#[c]⟩) s).map (·.data.toList) = splL c s.data.toList := by
    rw [Lib.splitB_data, e0]; exact splitK_one c _ _ (Nat.le_refl _)
  have e2 : (Lib.splitB ⟨#[c]⟩ 0 (Lib.countB s ⟨#[c]⟩) s).map Value.string = strL (splL c s.data.toList) := by
    rw [← e1, strL, List.map_map]; rfl
  have e3 : Lib.countB s ⟨#[c]⟩ + 1 = (splL c s.data.toList).length := by rw [e0, splL_length]
  rw [e2, e3]
  refine ⟨_, rfl, (h.alloc _).pt_row _ _ _ _ (by simp [strL]) (strL_one _) (Nat.le_refl _) ?_ (by simp [strL]) ?_⟩
  · rw [splL_length]
    have := List.count_le_length (a := c) (l := s.data.toList)
    have e4 : s.data.toList.length = s.size := by rw [Array.length_toList]; rfl
    unfold maxLen; omega
  · rw [List.drop_zero]; exact List.take_of_length_le (by simp [strL])

/-! ### A builder -/
set_option maxHeartbeats 1000000 in
set_option maxRecDepth 100000 in
theorem pcopy (B0 b : Nat) (bs : List Value) (w : World) (h : Lib.IsBuilder 70 5 B0 b bs w) :
    Calls Tryz.prog 54 #[.pointer (some ⟨b, 0, none⟩)] w fun e w' => e = .returned (.tuple #[]) ∧ Lib.BuilderAt 70 5 B0 b (.pointer (some ⟨b, 0, none⟩)) bs w' ∧ Below B0 w w' := by
  have hsz : ∃ j, Tryz.prog.info? 70 = some j ∧ j.size = 2 := Option.map_eq_some_iff.1 (show (Tryz.prog.info? 70).map (·.size) = some 2 by kernel_rfl)
  obtain ⟨j, hj, hjs⟩ := hsz
  have lies : liesAt Tryz.prog Tryz.prog.depth 70 (2 / Tryz.prog.cellsOf 70) 0 70 1 = true := by kernel_rfl
  rcases h with h | h
  · have h0 := h.cell0
    have hsh := h.shape
    have hfz := h.frozen0
    go_enter Tryz.func54, Tryz.ntmps54
    go_wp2
    rw [Lib.run_to_unsafe w ⟨b, 0, none⟩ Tryz.underlying68 Tryz.underlying83 hj (by rw [hjs]; decide) hsh (Nat.zero_lt_succ 1)]
    simp only [Result.andThen]
    rw [Oper.upon_value]
    go_wp2
    rw [run_callFunc_extern Tryz.func77 (by kernel_rfl) (by kernel_rfl) (by kernel_rfl) (e := Extern.AbiNoEscape.same) (by kernel_rfl)]
    rw [Lib.run_noEscape]
    simp only [Result.andThen]
    rw [Oper.upon_value]
    go_wp2
    rw [Lib.run_from_unsafe w ⟨b, 0, none⟩ Tryz.underlying83 Tryz.underlying68 hj hsh lies]
    simp only [Result.andThen]
    rw [Oper.upon_value]
    go_wp2
    go_end0
    exact ⟨rfl, h.used _, (Below.refl B0 w).setCell (p := ⟨b, 0, none⟩) h.1 _⟩
  · have h0 := h.cell0
    go_enter Tryz.func54, Tryz.ntmps54
    go_wp2
    rw [Lib.run_neq_ptr_same w _ Tryz.underlying68 hj]
    go_wp2
    go_end0
    exact ⟨rfl, h, Below.refl B0 _⟩
set_option maxHeartbeats 2000000 in
set_option maxRecDepth 100000 in
theorem pwrite (B0 b : Nat) (l : Bs) (s : ByteArray) (w : World) (h : Lib.IsBuilder 70 5 B0 b (Lib.byteCells l) w) (hlen : l.length + s.size ≤ 140737488355328) (hBw : B0 ≤ w.heap.size) :
    Calls Tryz.prog 21 #[.pointer (some ⟨b, 0, none⟩), .string s] w fun e w' => e = .returned (.tuple #[.int .i64 s.size, .nilIface]) ∧ Lib.IsBuilder 70 5 B0 b (Lib.byteCells (l ++ s.data.toList)) w' ∧ Below B0 w w' := by
  obtain ⟨i0, hi, hz0, hz1, hz2⟩ := info_parts (show (Tryz.prog.info? 5).map (fun i => (i.zero, i.size, i.bytes)) = some (some (.int .u8 0), 1, 1) by kernel_rfl)
  go_enter Tryz.func21, Tryz.ntmps21
  go_wp2_with (go_at_call 54; refine (pcopy B0 b _ _ h).mono ?_)
  rintro e w1 ⟨rfl, h1, hb1⟩
  obtain ⟨hB, v, hbk, hown, hne⟩ := h1
  have c0 : w1.cell? ⟨b, 0, none⟩ = some (.pointer (some ⟨b, 0, none⟩)) := by rw [Lib.cell_of_heap hbk]; rfl
  have c1 : w1.cell? ⟨b, 1, none⟩ = some v := by rw [Lib.cell_of_heap hbk]; rfl
  rw [Lib.byteCells_length] at hown
  go_wp2_with (at_builtin; refine Lib.wpList_append_own_string _ rfl _ _ 23 9 rfl B0 5 i0 Tryz.underlying23 Tryz.underlying9 hi hz0 hz1 hz2 _ _ _ rfl hown s rfl ?c3 ?c4 ?c5 ?_)
  case c3 => unfold maxLen; omega
  case c4 => omega
  case c5 => have := hb1.size; omega
  intro v' w2 hown' hgrow _
  have hlt : b < w1.heap.size := by
    rcases Nat.lt_or_ge b w1.heap.size with h' | h'
    · exact h'
    · simp [Array.getElem?_eq_none h'] at hbk
  have hb2 : w2.heap[b]? = some (.cells #[.pointer (some ⟨b, 0, none⟩), v] 70 (0, 0)) := by
    rw [hgrow.block b hlt (fun e => hne e.symm)]
    exact hbk
  have d0 : w2.cell? ⟨b, 0, none⟩ = some (.pointer (some ⟨b, 0, none⟩)) := by rw [Lib.cell_of_heap hb2]; rfl
  have d1 : w2.cell? ⟨b, 1, none⟩ = some v := by rw [Lib.cell_of_heap hb2]; rfl
  have f1 : w2.frozen? ⟨b, 1, none⟩ = false := Lib.frozen_of_heap hb2 1
  obtain ⟨ao, n', cap, rfl⟩ : ∃ ao n' cap, v' = .slice ao n' cap := by
    rcases hown'.2 with ⟨hv, _⟩ | ⟨g, cap, cur, hv, _⟩
    · exact ⟨_, _, _, hv⟩
    · exact ⟨_, _, _, hv⟩
  go_wp2
  go_ret2
  refine ⟨rfl, ?_, ?_⟩
  · refine Or.inr (Lib.BuilderAt.put (T := 70) (e := 5) hB hb2 (bs' := Lib.byteCells (l ++ s.data.toList)) ?_ (by decide))
    have e1 : Lib.byteCells (l ++ s.data.toList) = Lib.byteCells l ++ Lib.strCells s := by simp [Lib.byteCells, Lib.strCells]
    rw [e1]
    simpa [Lib.strCells_length, Lib.byteCells_length] using hown'
  · exact (hb1.grown hgrow (by have := hb1.size; omega) (fun k hk => (hown.lt k hk).1)).setCell (p := ⟨b, 1, none⟩) hB _
end
end Go.Proofs.YtcjindifdghpgaaGreatDoor
