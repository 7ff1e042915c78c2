/-
  The library's functions that a log calls, by contracts: FormatUint, ParseUint, Trim at the digits, Repeat of a zero.
-/
import Derived.Test.YtdngjkjoahgelaaGreatDoorProg
import Derived.Test.YtdngjkjoahgelaaGreatDoorShelf
import Derived.Test.YtdngjkjoahgelaaGreatDoorSlA
import Derived.Test.YtdngjkjoahgelaaGreatDoorSlB
import Derived.Test.YtdngjkjoahgelaaGreatDoorWlA
import Derived.Lib.AppendIntMem
import Derived.Deep.LoopGhost
import Derived.Lib.Hide
import Derived.BigRegion
import Derived.Deep.RegionWith
import Derived.Shelf.Strings.SlTrimAscii
namespace Go.Proofs.YtdngjkjoahgelaaGreatDoor
set_option linter.all false
open Go.RowKit
open Go.Sort hiding Holds
/-- What the package-level variables hold, in the world ahead. -/
abbrev bA' (n : Bt) : ByteArray := ⟨n.toArray⟩
structure Env (B : World) : Prop where
  pow : Lib.TabIs Tryz.prog B "internal/strconv.uint64pow10" .u64 Lib.pow10Tab
section
variable {B w : World} {L : List HP}
theorem tab_below {w w' : World} (hb : Below w.heap.size w w') {n : String} {k : IntKind} {zs : List Int} (h : Lib.TabIs Tryz.prog w n k zs) : Lib.TabIs Tryz.prog w' n k zs := by
  unfold Lib.TabIs World.var? at *
  cases hg : Tryz.prog.globalNamed n with
  | none => simp [hg] at h
  | some g =>
    simp only [hg, Option.bind_some] at h ⊢
    have hlt : g < w.heap.size := by
      rcases Nat.lt_or_ge g w.heap.size with h' | h'
      · exact h'
      · simp [Array.getElem?_eq_none h'] at h
    rw [hb.block g hlt]; exact h
theorem Env.below {w w' : World} (h : Env w) (hb : Below w.heap.size w w') : Env w' := ⟨tab_below hb h.pow⟩
theorem Env.at (h : Env B) (hS : Sat B L w) : Env w := h.below hS.below
set_option maxHeartbeats 1000000 in
set_option maxRecDepth 100000 in
theorem pfmt0 (hE : Env B) (h : Sat B L w) (u : Nat) (hu : u < 18446744073709551616) :
    Calls Tryz.prog 114 #[.int .u64 u, .int .i64 10] w fun e w' => e = .returned (.string ⟨(Lib.decDigits u).toArray⟩) ∧ Sat B L w' := by
  by_cases hs : u < 100
  · go_enter Tryz.func114, Tryz.ntmps114
    go_wp2_with (go_at_call 139; refine (Tryz.internal_strconv_small u hs _).mono ?_; rintro e w' ⟨rfl, rfl⟩)
    go_ret
    exact ⟨rfl, h⟩
  · have hu1 : 1 ≤ u := by omega
    have hnd20 : Lib.nDigits u ≤ 20 := by have := Lib.numDigits_eq u hu1 hu; split at this <;> omega
    obtain ⟨nd, hnd⟩ : ∃ nd, Lib.nDigits u = nd := ⟨_, rfl⟩
    have hal : Tryz.prog.arrayLen 192 = 24 := by simp [Program.arrayLen, Tryz.underlying192]
    have hsl1 : ∀ W, (Instr.sliceAt 192 (.pointer (some ⟨w.heap.size, 0, none⟩)) none (some (.int .i64 (nd : Int))) none).run Tryz.prog W = .ok (.slice (some ⟨w.heap.size, 0, none⟩) nd 24) W := fun W => by
      rw [run_sliceAt_array_h W 192 ⟨w.heap.size, 0, none⟩ (by simp [Program.arrayLen, Program.elem, Tryz.underlying192]) .i64 (nd : Int) (by omega) (by rw [hal]; omega)]
      go_simp
    have hH0 := Lib.holds_zero0 w 192 (Lib.nDigits u) (by omega)
    have hfmt := Tryz.internal_strconv_formatBase10 w.heap.size 0 24 u (Array.replicate (Lib.nDigits u) 0) (w.alloc (.cells Lib.zeros24 192)) hH0 (by rw [Array.size_replicate]; exact Lib.lt_pow_nDigits u) hu (by rw [Array.size_replicate]; omega)
    rw [Array.size_replicate, hnd] at hfmt
    have HH0 := Lib.hid hH0
    have hpow := Lib.tabIs_alloc (hE.at h).pow (.cells Lib.zeros24 192)
    clear hH0 hal
    go_enter Tryz.func114, Tryz.ntmps114
    go_wp2_with (go_at_call 140; refine (Tryz.internal_strconv_numDigits u hu1 hu _ hpow).mono ?_; rintro e w' ⟨rfl, rfl⟩; rw [hnd])
    refine hfmt.mono ?_
    rintro e w' ⟨rfl, k, v', dk, rfl, hF⟩
    have hcv : (convert 97 9 (.slice (some ⟨w.heap.size, 0, none⟩) nd 24)).run Tryz.prog ((putRow (fun (b : UInt8) => Value.int .u8 (b.toNat : Int)) (w.alloc (.cells Lib.zeros24 192)) w.heap.size 0 dk).drewN k) = .ok (.string ⟨(Lib.decDigits u).toArray⟩) ((putRow (fun (b : UInt8) => Value.int .u8 (b.toNat : Int)) (w.alloc (.cells Lib.zeros24 192)) w.heap.size 0 dk).drewN k) := by
      have h := run_convert_bytes_back (P := Tryz.prog) ((putRow (fun (b : UInt8) => Value.int .u8 (b.toNat : Int)) (w.alloc (.cells Lib.zeros24 192)) w.heap.size 0 dk).drewN k) 97 9 5 ⟨w.heap.size, 0, none⟩ 24 (Lib.decDigits u) Tryz.underlying97 Tryz.underlying5 Tryz.underlying9 (fun j hj => by
        rw [← hnd] at hF
        rw [Lib.row_is_numeral hF j hj, Lib.add_plain, World.cell?_drewN]
        exact cell?_putRow (fun (b : UInt8) => Value.int .u8 (b.toNat : Int)) _ w.heap.size 0 _ dk HH0.out (by rw [hF.size, Array.size_replicate]) j (by rw [hF.size]; rw [Lib.decDigits_length] at hj; exact hj))
      rw [Lib.decDigits_length, hnd] at h
      exact h
    go_wp2_with fail
    go_ret
    have eo : ∃ os, (putRow (fun (b : UInt8) => Value.int .u8 (b.toNat : Int)) (w.alloc (.cells Lib.zeros24 192)) w.heap.size 0 dk).drewN k = grow (w.drewN k) os := by
      rw [alloc_eq_grow]
      obtain ⟨os', _, e⟩ := putRow_grow_new (fun (b : UInt8) => Value.int .u8 (b.toNat : Int)) w #[.cells Lib.zeros24 192] w.heap.size 0 dk (Nat.le_refl _)
      exact ⟨os', by rw [e]; rfl⟩
    obtain ⟨os, eo⟩ := eo
    exact ⟨rfl, h.of_below (by rw [eo]; exact Lib.below_grow _ w (Nat.le_refl _) k os)⟩
theorem pfmt (hE : Env B) (h : Sat B L w) (u : Nat) (hu : u < 18446744073709551616) :
    Calls Tryz.prog 73 #[.int .u64 u, .int .i64 10] w fun e w' => e = .returned (.string ⟨(Lib.decDigits u).toArray⟩) ∧ Sat B L w' := by
  go_enter Tryz.func73, Tryz.ntmps73
  go_wp2_with (go_at_call 114; refine (pfmt0 hE h u hu).mono ?_; rintro e w' ⟨rfl, h'⟩)
  go_ret
  exact ⟨rfl, h'⟩

/-! ### Digits -/
def digitsB : ByteArray := ⟨#[48, 49, 50, 51, 52, 53, 54, 55, 56, 57]⟩
theorem trim_info : (Tryz.prog.info? (Tryz.lays160_ren.t 116)).map (fun i => (i.zero, i.size)) = some (some (.agg (Array.replicate 256 (.bool false))), 256) := by kernel_rfl
theorem dig_mem (c : UInt8) : (digitsB.data.toList.contains c) = isDig c := by
  have : ∀ i : Fin 256, (digitsB.data.toList.contains (UInt8.ofNat i.val)) = isDig (UInt8.ofNat i.val) := by decide +kernel
  have := this ⟨c.toNat, c.toNat_lt⟩
  simpa using this
theorem trim_nil (l : Bt) : Lib.trimS l digitsB.data.toList = [] ↔ l.all isDig = true := by
  have hd : ∀ m : Bt, (m.dropWhile (digitsB.data.toList.contains ·)) = [] ↔ m.all isDig = true := fun m => by
    induction m with
    | nil => simp
    | cons c m ih =>
      rw [List.dropWhile_cons, dig_mem, List.all_cons]
      cases hc : isDig c with
      | true => simpa using ih
      | false => simp
  unfold Lib.trimS Lib.trimLeftS Lib.trimRightS
  rw [hd, List.all_reverse]
  constructor
  · intro h
    cases hz : l.all isDig with
    | true => rfl
    | false =>
      exfalso
      have hne : (l.reverse.dropWhile (digitsB.data.toList.contains ·)) ≠ [] := fun e => by
        have := (hd l.reverse).1 e
        rw [List.all_reverse, hz] at this; cases this
      have h1 := List.head_dropWhile_not (digitsB.data.toList.contains ·) hne
      rw [dig_mem] at h1
      have h2 := List.all_eq_true.1 h _ (List.head_mem hne)
      rw [h1] at h2; cases h2
  · intro h
    have := (hd l.reverse).2 (by rw [List.all_reverse]; exact h)
    rw [this]; rfl
theorem ptrim (d : Bt) (hd : d.length ≤ 9223372036854775807) (h : Sat B L w) :
    Calls Tryz.prog 69 #[.string (bA' d), .string digitsB] w fun e w' => e = .returned (.string (bA' (Lib.trimS d digitsB.data.toList))) ∧ Sat B L w' := by
  have := Any.strings_Trim_laid Tryz.lays160 trim_info (bA' d) digitsB w (by simpa [ByteArray.size] using hd) (by decide) (ascii_of_all (by decide))
  refine this.mono ?_
  rintro e w' ⟨rfl, hb⟩
  exact ⟨rfl, h.of_below hb⟩
theorem parse_digs : ∀ (l : Bt) (acc k : Nat), l.all isDig = true → l.length ≤ k → k ≤ 16 → acc < 10 ^ (16 - k) → Lib.parseUintM (2 ^ 64 - 1) acc l = .ok (l.foldl (fun n b => 10 * n + (b.toNat - 48)) acc)
  | [], acc, k, _, _, _, _ => rfl
  | c :: l, acc, 0, _, h, _, _ => by simp at h
  | c :: l, acc, k + 1, hd, hl, hk, ha => by
    rw [List.all_cons, Bool.and_eq_true] at hd
    obtain ⟨h1, h2⟩ := hd
    simp only [isDig, Bool.and_eq_true, decide_eq_true_eq] at h1
    have e : 16 - k = (16 - (k + 1)) + 1 := by omega
    have hp : 10 ^ (16 - (k + 1)) ≤ 10 ^ 16 := Nat.pow_le_pow_right (by omega) (by omega)
    rw [Lib.parseUintM, if_pos h1, if_neg (by omega), if_neg (by omega), parse_digs l _ k h2 (by simpa using hl) (by omega) (by rw [e, Nat.pow_succ]; omega), List.foldl_cons, Nat.mul_comm]
theorem pparse16 (d : Bt) (hl : d.length = 16) (hd : d.all isDig = true) (h : Sat B L w) :
    Calls Tryz.prog 70 #[.string (bA' d), .int .i64 10, .int .i64 64] w fun e w' => e = .returned (.tuple #[.int .u64 (decV d : Int), .nilIface]) ∧ Sat B L w' := by
  have hp : Lib.parseUintB 64 (bA' d).data.toList = .ok (decV d) := by
    have hne : d ≠ [] := fun e => by rw [e] at hl; cases hl
    show Lib.parseUintB 64 d = _
    rw [Lib.parseUintB, if_neg hne, parse_digs d 0 16 hd (by omega) (by omega) (by omega)]
    rfl
  refine (Tryz.strconv_ParseUint_10_at64_ok (bA' d) (by simp [ByteArray.size]; omega) (decV d) hp w).mono ?_
  rintro e w' ⟨rfl, hw⟩
  refine ⟨rfl, ?_⟩
  rcases hw with rfl | rfl
  · exact h
  · exact (h.bytes _ (bA' d) (by simp [ByteArray.size]; omega)).drop
theorem repeat_eq (n : Nat) : Lib.repeatL [48] n = List.replicate n 48 := by
  induction n with
  | zero => rfl
  | succ n ih => rw [Lib.repeatL, ih]; rfl
theorem prepeat (n : Nat) (hn : n ≤ 16) (h : Sat B L w) : Calls Tryz.prog 74 #[.string ⟨#[48]⟩, .int .i64 (n : Int)] w fun e w' => e = .returned (.string (bA' (List.replicate n 48))) ∧ Sat B L w' := by
  refine (Tryz.strings_Repeat ⟨#[48]⟩ n w (by omega) (by show 1 * n ≤ _; omega)).mono ?_
  rintro e w' ⟨rfl, hb⟩
  refine ⟨?_, h.of_below hb⟩
  have : (⟨#[48]⟩ : ByteArray).data.toList = [48] := rfl
  rw [this, repeat_eq]
end
end Go.Proofs.YtdngjkjoahgelaaGreatDoor
