/-
  WalPlays: the document's disk: its files, read; name, Free. (The document's code never changes what it was handed: its contracts say 'Below': all that lay there lies there still.) WalPlays: the document's disk: find. WalPlays: the document's disk: Of. WalPlays: the document's disk: without. WalPlays: the document's disk: with. WalPlays: the document's disk: New, Append, Sync, Read.
-/
import Derived.Test.YtdngjkjoahgelaaGreatDoorWaC
import Derived.Sort.Walk0
import Derived.Handy
import Derived.Deep.AppendLies
namespace Go.Proofs.YtdngjkjoahgelaaGreatDoor
set_option linter.all false
set_option maxRecDepth 100000
set_option maxHeartbeats 1000000
open Go.RowKit
/-- A file of the document's disk. -/
def qC (f : Fl) : List Value := [.string (bA f.name), .string (bA f.bytes), .int .i64 (f.synced : Int)]
/-- The document's files, in a row of one's own. -/
def qrow (v : Value) (D : Fls) : HP := row 117 3 v D.length (D.flatMap qC)
/-- The document's files, read. -/
def qR (w : World) (v : Value) (D : Fls) : Prop := reads w v D.length (D.flatMap qC) ∧ ((v = .slice none 0 0 ∧ D = []) ∨ ∃ g off c, v = .slice (some ⟨g, off, none⟩) D.length c ∧ D.length ≤ c ∧ c ≤ maxLen)
abbrev qval (room : Int) (v : Value) : Value := .agg #[.int .i64 room, v]
theorem qc_get : ∀ {D : Fls} {i : Nat} {x : Fl}, D[i]? = some x → (D.flatMap qC)[i * 3]? = some (.string (bA x.name)) ∧ (D.flatMap qC)[i * 3 + 1]? = some (.string (bA x.bytes)) ∧ (D.flatMap qC)[i * 3 + 2]? = some (.int .i64 (x.synced : Int))
  | [], _, _, h => by simp at h
  | y :: D, 0, x, h => by
    simp at h; subst h
    simp [qC]
  | y :: D, i + 1, x, h => by
    have ih := qc_get (D := D) (i := i) (x := x) (by simpa using h)
    have e : ((y :: D).flatMap qC) = qC y ++ D.flatMap qC := rfl
    have el : (qC y).length = 3 := rfl
    rw [e, List.getElem?_append_right (by omega), List.getElem?_append_right (by omega), List.getElem?_append_right (by omega), el,
      show (i + 1) * 3 - 3 = i * 3 by omega, show (i + 1) * 3 + 1 - 3 = i * 3 + 1 by omega, show (i + 1) * 3 + 2 - 3 = i * 3 + 2 by omega]
    exact ih
theorem i64_id2 {x : Int} (h1 : -9223372036854775808 ≤ x) (h2 : x ≤ 9223372036854775807) : IntKind.i64.wrap x = x := by simp [IntKind.wrap, IntKind.bits, IntKind.signed]; omega
theorem used_cat (A C : Fls) : usedD (A ++ C) = usedD A + usedD C := by simp [usedD]
theorem qc_len (D : Fls) : (D.flatMap qC).length = D.length * 3 := by
  induction D with
  | nil => rfl
  | cons y D ih => rw [List.flatMap_cons, List.length_append, ih, List.length_cons]; show 3 + _ = _; omega
theorem qc_cat (A C : Fls) : (A ++ C).flatMap qC = A.flatMap qC ++ C.flatMap qC := List.flatMap_append
theorem qc_take (D : Fls) (k : Nat) : (D.flatMap qC).take (k * 3) = (D.take k).flatMap qC := by
  by_cases hk : k ≤ D.length
  · have e : D.flatMap qC = (D.take k).flatMap qC ++ (D.drop k).flatMap qC := by rw [← qc_cat, List.take_append_drop]
    rw [e, List.take_left' (by rw [qc_len, List.length_take]; omega)]
  · rw [List.take_of_length_le (by rw [qc_len]; omega), List.take_of_length_le (by omega)]
theorem qc_drop (D : Fls) (k : Nat) : (D.flatMap qC).drop (k * 3) = (D.drop k).flatMap qC := by
  by_cases hk : k ≤ D.length
  · have e : D.flatMap qC = (D.take k).flatMap qC ++ (D.drop k).flatMap qC := by rw [← qc_cat, List.take_append_drop]
    rw [e, List.drop_left' (by rw [qc_len, List.length_take]; omega)]
  · rw [List.drop_of_length_le (by rw [qc_len]; omega), List.drop_of_length_le (by omega)]; rfl
theorem qc_one (D : Fls) : ∀ u ∈ D.flatMap qC, u.oneCell' = true := by
  intro u hu
  obtain ⟨f, _, hu⟩ := List.mem_flatMap.1 hu
  simp only [qC, List.mem_cons, List.not_mem_nil, or_false] at hu
  rcases hu with rfl | rfl | rfl <;> rfl
theorem reads_below {w w' : World} {v : Value} {n : Nat} {xs : List Value} (h : reads w v n xs) (hb : Below w.heap.size w w') : reads w' v n xs := ((Sat.start w).of_below hb).reads h
section
variable {B w w' : World} {L : List HP} {room : Int} {D : Fls} {v : Value}
theorem Sat.qR (h : Sat B L w) (hq : qR B v D) : qR w v D := ⟨h.reads hq.1, hq.2⟩
theorem qR.up (hq : qR w v D) (hb : Below w.heap.size w w') : qR w' v D := ⟨reads_below hq.1 hb, hq.2⟩
theorem qR.drew (hq : qR w v D) : qR w.drew v D := hq
/-- What a call made anew, beside what there was. -/
theorem Sat.over {A : HP} (h : Sat B L w) (h' : Sat w (A :: []) w') : Sat B (A :: L) w' := by
  obtain ⟨x, hx, h2⟩ := h'.says
  refine (Sat.fact_in (p := True) trivial h).turn h'.os h'.tape h'.output h'.size fun a _ h3 => ?_
  exact ⟨x, hx, fun k o e => ⟨(h2 k o e).1, .inr (h2 k o e).2⟩, fun k hk _ => h'.old k hk⟩
theorem Sat.q_row (h : Sat B (qrow v D :: L) w) : Go.Proofs.YtdngjkjoahgelaaGreatDoor.qR w v D := by
  have h' : Sat B (row 117 3 v D.length (D.flatMap qC) :: L) w := h
  refine ⟨h'.row_reads, ?_⟩
  rcases h'.row_form with ⟨rfl, h1, h2⟩ | ⟨g, off, cap, rfl, h1, h2, _⟩
  · exact .inl ⟨rfl, List.eq_nil_of_length_eq_zero h1⟩
  · exact .inr ⟨g, off, cap, rfl, h1, h2⟩
theorem qR.len (hq : qR w v D) : ∃ a c, v = .slice a D.length c := by
  obtain ⟨a, c, h, _⟩ := hq.1
  exact ⟨a, c, h⟩
/-- What lies at a file of the row. -/
theorem q_at (h : qR w v D) {i : Nat} {x : Fl} (hx : D[i]? = some x) : ∃ g off c, v = .slice (some ⟨g, off, none⟩) D.length c ∧
    w.cell? ⟨g, off + i * 3, none⟩ = some (.string (bA x.name)) ∧ w.cell? ⟨g, off + i * 3 + 1, none⟩ = some (.string (bA x.bytes)) ∧ w.cell? ⟨g, off + i * 3 + 2, none⟩ = some (.int .i64 (x.synced : Int)) := by
  obtain ⟨⟨a, c, rfl, _, _, _, hc⟩, _⟩ := h
  obtain ⟨h1, h2, h3⟩ := qc_get hx
  obtain ⟨g, off, rfl, c1⟩ := hc _ _ h1
  obtain ⟨_, _, e, c2⟩ := hc _ _ h2
  cases e
  obtain ⟨_, _, e, c3⟩ := hc _ _ h3
  cases e
  exact ⟨g, off, c, rfl, c1, by rw [Nat.add_assoc]; exact c2, by rw [Nat.add_assoc]; exact c3⟩
/-- 'name'. -/
theorem pqname (s : Bt) (hs : s.length ≤ 9223372036854775807) : Calls Tryz.prog 80 #[.string (bA s)] w fun y w' => y = .returned (.bool (okName s)) ∧ w' = w := by
  have hz : (bA s).size = s.length := by simp [ByteArray.size]
  by_cases h1 : 1 ≤ s.length
  · have b1 : (s.length : Int) ≥ 1 := by omega
    have b1' : (1 : Int) ≤ (s.length : Int) := by omega
    by_cases h2 : s.length ≤ 64
    · have b2 : (s.length : Int) ≤ 64 := by omega
      have hne : s ≠ [] := fun e => by rw [e] at h1; simp at h1
      have hok := Lib.hid (show okName s = true by rw [okName, decide_eq_true hne, decide_eq_true h2]; rfl)
      clear hne
      go_enter Tryz.func80, Tryz.ntmps80
      go_wp2_with fail
      go_ret
      rw [hok.out]
      exact ⟨rfl, rfl⟩
    · have b2 : ¬ (s.length : Int) ≤ 64 := by omega
      have hok := Lib.hid (show okName s = false by rw [okName, decide_eq_false h2, Bool.and_false])
      go_enter Tryz.func80, Tryz.ntmps80
      go_wp2_with fail
      go_ret
      rw [hok.out]
      exact ⟨rfl, rfl⟩
  · have b1 : ¬ (s.length : Int) ≥ 1 := by omega
    have b1' : ¬ (1 : Int) ≤ (s.length : Int) := by omega
    have he : s = [] := List.eq_nil_of_length_eq_zero (by omega)
    have hok := Lib.hid (show okName s = false by rw [he]; rfl)
    clear he
    go_enter Tryz.func80, Tryz.ntmps80
    go_wp2_with fail
    go_ret
    rw [hok.out]
    exact ⟨rfl, rfl⟩
/-- 'Free'. -/
theorem pqFree (hq : qR w v D) (hl : D.length ≤ 1000000) (hu : usedD D ≤ 1099511627776) (hr : 0 ≤ room ∧ room ≤ 9223372036854775807) : Calls Tryz.prog 59 #[qval room v] w fun y w' => y = .returned (.int .i64 (room - (usedD D : Int))) ∧ Below w.heap.size w w' := by
  obtain ⟨a, c, rfl⟩ := hq.len
  obtain ⟨n, hn⟩ : ∃ n, D.length = n := ⟨_, rfl⟩
  obtain ⟨bx, hbx⟩ : ∃ bx, w.heap.size = bx := ⟨_, rfl⟩
  have h1 := (Sat.start w).alloc' (.cells #[.int .i64 room, .slice a D.length c] 54) (n := bx) hbx.symm
  have hq1 := h1.qR hq
  rw [hn] at h1 hl
  have x0 : (w.alloc (.cells #[.int .i64 room, .slice a n c] 54)).cell? ⟨bx, 0, none⟩ = some (.int .i64 room) := h1.pt_cell 0
  have x1 : (w.alloc (.cells #[.int .i64 room, .slice a n c] 54)).cell? ⟨bx, 1, none⟩ = some (.slice a n c) := h1.pt_cell 1
  rw [hn] at hq1
  have hqa := fun (i : Nat) (x : Fl) (hx : D[i]? = some x) => q_at (D := D) (i := i) (x := x) hq1 hx
  have n1 : (n : Int) ≤ 1000000 := by omega
  have Hn := Lib.hid hn
  have Hr := Lib.hid hr
  have Hu := Lib.hid hu
  have Hq := Lib.hid hqa
  rw [hn, hbx]
  clear hq hq1 hqa hr hu hl hn
  go_enter Tryz.func59, Tryz.ntmps59
  go_wp2_with fail
  generalize w.alloc (.cells #[.int .i64 room, .slice a n c] 54) = w1 at h1 x0 x1 Hq ⊢
  go_loopg [3, 4] (n + 1) (fun gh v3 v4 wr => ∃ i : Nat, i ≤ n ∧ n + 1 ≤ i + gh ∧ v4 = .int .i64 (i : Int) ∧ v3 = .int .i64 (room - (usedD (D.take i) : Int)) ∧ wr = w1)
  case atStart => exact ⟨0, by omega, by omega, rfl, by simp [usedD], rfl⟩
  case round =>
    obtain ⟨i, hi1, hi2, rfl, rfl, rfl⟩ := hrel
    by_cases hi : i < n
    · obtain ⟨x, hx⟩ : ∃ x, D[i]? = some x := ⟨_, List.getElem?_eq_getElem (by rw [Hn.out]; exact hi)⟩
      obtain ⟨g, off, c', e, c1, c2, c3⟩ := Hq.out i x hx
      rw [Hn.out] at e
      cases e
      have i1 : (i : Int) < (n : Int) := by omega
      have htk : D.take (i + 1) = D.take i ++ [x] := by rw [List.take_add_one, hx]; rfl
      have hus : usedD (D.take (i + 1)) = usedD (D.take i) + x.bytes.length := by rw [htk]; simp [usedD]
      have hle : usedD (D.take (i + 1)) ≤ usedD D := by
        have e : usedD (D.take (i + 1) ++ D.drop (i + 1)) = usedD (D.take (i + 1)) + usedD (D.drop (i + 1)) := used_cat _ _
        rw [List.take_append_drop] at e
        omega
      obtain ⟨u, hu⟩ : ∃ u, usedD (D.take i) = u := ⟨_, rfl⟩
      have hz : (bA x.bytes).size = x.bytes.length := by simp [ByteArray.size]
      have ew : IntKind.i64.wrap (room - (u : Int) - (x.bytes.length : Int)) = room - (u : Int) - (x.bytes.length : Int) := i64_id2 (by have := Hr.out; have := Hu.out; omega) (by have := Hr.out; omega)
      rw [hu] at hus ⊢
      have Hus := Lib.hid hus
      clear htk hus hle hx hu
      go_wp2_with fail
      go_roundg (gk - 1)
      case measure => omega
      case rel => exact ⟨i + 1, by omega, by omega, by go_num, by rw [Hus.out]; congr 1; omega, rfl⟩
    · obtain rfl : i = n := by omega
      have hni : ¬ (i : Int) < (i : Int) := by omega
      have htk : D.take i = D := List.take_of_length_le (by rw [Hn.out]; exact Nat.le_refl _)
      rw [htk]
      clear htk
      go_wp2_with fail
      go_ret
      exact ⟨rfl, hbx ▸ h1.below⟩
end
end Go.Proofs.YtdngjkjoahgelaaGreatDoor

namespace Go.Proofs.YtdngjkjoahgelaaGreatDoor
set_option linter.all false
set_option maxRecDepth 100000
set_option maxHeartbeats 1000000
open Go.RowKit
/-- Where a name stands, or would. -/
def findQ (s : Bt) : Fls → Nat × Bool
  | [] => (0, false)
  | f :: D => if f.name < s then ((findQ s D).1 + 1, (findQ s D).2) else (0, f.name == s)
section
variable {B w w' : World} {L : List HP} {room : Int} {D : Fls} {v : Value}
theorem pqfind (s : Bt) (hq : qR w v D) (hl : D.length ≤ 1000000) : Calls Tryz.prog 119 #[qval room v, .string (bA s)] w fun y w' => y = .returned (.tuple #[.int .i64 ((findQ s D).1 : Int), .bool (findQ s D).2]) ∧ Below w.heap.size w w' := by
  obtain ⟨a, c, rfl⟩ := hq.len
  obtain ⟨n, hn⟩ : ∃ n, D.length = n := ⟨_, rfl⟩
  obtain ⟨bx, hbx⟩ : ∃ bx, w.heap.size = bx := ⟨_, rfl⟩
  have h1 := (Sat.start w).alloc' (.cells #[.int .i64 room, .slice a D.length c] 54) (n := bx) hbx.symm
  have hq1 := h1.qR hq
  rw [hn] at h1 hl hq1
  have x1 : (w.alloc (.cells #[.int .i64 room, .slice a n c] 54)).cell? ⟨bx, 1, none⟩ = some (.slice a n c) := h1.pt_cell 1
  have hqa := fun (i : Nat) (x : Fl) (hx : D[i]? = some x) => q_at (D := D) (i := i) (x := x) hq1 hx
  have n1 : (n : Int) ≤ 1000000 := by omega
  have Hn := Lib.hid hn
  have Hq := Lib.hid hqa
  rw [hn, hbx]
  clear hq hq1 hqa hl hn
  go_enter Tryz.func119, Tryz.ntmps119
  go_wp2_with fail
  generalize w.alloc (.cells #[.int .i64 room, .slice a n c] 54) = w1 at h1 x1 Hq ⊢
  go_loopg [6] (n + 1) (fun gh v6 wr => ∃ i : Nat, i ≤ n ∧ n + 1 ≤ i + gh ∧ v6 = .int .i64 (i : Int) ∧ findQ s D = (i + (findQ s (D.drop i)).1, (findQ s (D.drop i)).2) ∧ wr = w1)
  case atStart => exact ⟨0, by omega, by omega, rfl, by simp, rfl⟩
  case round =>
    obtain ⟨i, hi1, hi2, rfl, hfq, rfl⟩ := hrel
    by_cases hi : i < n
    · obtain ⟨x, hx⟩ : ∃ x, D[i]? = some x := ⟨_, List.getElem?_eq_getElem (by rw [Hn.out]; exact hi)⟩
      obtain ⟨g, off, c', e, c1, c2, c3⟩ := Hq.out i x hx
      rw [Hn.out] at e
      cases e
      have i1 : (i : Int) < (n : Int) := by omega
      have hdr : D.drop i = x :: D.drop (i + 1) := by
        obtain ⟨hlt, e⟩ := List.getElem?_eq_some_iff.1 hx
        rw [List.drop_eq_getElem_cons hlt, e]
      rw [hdr] at hfq
      clear hx hdr c2 c3
      by_cases hlt : x.name < s
      · have Hf := Lib.hid (show findQ s D = (i + 1 + (findQ s (D.drop (i + 1))).1, (findQ s (D.drop (i + 1))).2) by rw [hfq, findQ, if_pos hlt]; simp; omega)
        have hb : Op.bytesLess x.name s = true := by rw [bytesLess_eq]; exact decide_eq_true hlt
        clear hfq hlt
        go_wp2_with fail
        go_roundg (gk - 1)
        case measure => omega
        case rel => exact ⟨i + 1, by omega, by omega, by go_num, Hf.out, rfl⟩
      · have Hf := Lib.hid (show findQ s D = (i, x.name == s) by rw [hfq, findQ, if_neg hlt]; simp)
        have hb : Op.bytesLess x.name s = false := by rw [bytesLess_eq]; exact decide_eq_false hlt
        clear hfq hlt
        go_wp2_with fail
        go_quiet (fail)
        go_wp2_with fail
        go_ret2
        rw [Hf.out]
        exact ⟨rfl, hbx ▸ (h1.drewN nq).below⟩
    · obtain rfl : i = n := by omega
      have hni : ¬ (i : Int) < (i : Int) := by omega
      have htk : D.drop i = [] := List.drop_of_length_le (by rw [Hn.out]; exact Nat.le_refl _)
      rw [htk] at hfq
      have Hf := Lib.hid (show findQ s D = (i, false) by rw [hfq]; simp [findQ])
      clear htk hfq
      go_wp2_with fail
      go_ret2
      rw [Hf.out]
      exact ⟨rfl, hbx ▸ h1.below⟩
end
end Go.Proofs.YtdngjkjoahgelaaGreatDoor

namespace Go.Proofs.YtdngjkjoahgelaaGreatDoor
set_option linter.all false
set_option maxRecDepth 100000
set_option maxHeartbeats 1000000
open Go.RowKit
theorem findQ_hit {s : Bt} : ∀ {D : Fls}, (findQ s D).2 = true → ∃ x, D[(findQ s D).1]? = some x ∧ x.name = s
  | [], h => by cases h
  | f :: D, h => by
    rw [findQ] at h ⊢
    by_cases hf : f.name < s
    · rw [if_pos hf] at h ⊢
      obtain ⟨x, h1, h2⟩ := findQ_hit (D := D) h
      exact ⟨x, by simpa using h1, h2⟩
    · rw [if_neg hf] at h ⊢
      exact ⟨f, rfl, by simpa using h⟩
theorem findQ_le (s : Bt) : ∀ D : Fls, (findQ s D).1 ≤ D.length
  | [] => Nat.le_refl _
  | f :: D => by
    rw [findQ]
    split
    · have := findQ_le s D; simp; omega
    · exact Nat.zero_le _
def ofQ (s : Bt) (D : Fls) : Option Fl := if (findQ s D).2 = true then D[(findQ s D).1]? else none
def ofV : Option Fl → Value
  | none => .tuple #[.agg #[.string ⟨#[]⟩, .string ⟨#[]⟩, .int .i64 0], .bool false]
  | some x => .tuple #[.agg #[.string (bA x.name), .string (bA x.bytes), .int .i64 (x.synced : Int)], .bool true]
section
variable {B w w' : World} {L : List HP} {room : Int} {D : Fls} {v : Value}
theorem pqOf (s : Bt) (hq : qR w v D) (hl : D.length ≤ 1000000) : Calls Tryz.prog 81 #[qval room v, .string (bA s)] w fun y w' => y = .returned (ofV (ofQ s D)) ∧ Below w.heap.size w w' := by
  obtain ⟨a, c, rfl⟩ := hq.len
  obtain ⟨n, hn⟩ : ∃ n, D.length = n := ⟨_, rfl⟩
  obtain ⟨bx, hbx⟩ : ∃ bx, w.heap.size = bx := ⟨_, rfl⟩
  have h1 := (Sat.start w).alloc' (.cells #[.int .i64 room, .slice a n c] 54) (n := bx) hbx.symm
  have h2 := (h1.alloc' (.cells #[.string ⟨#[]⟩, .string ⟨#[]⟩, .int .i64 0] 117) (n := bx + 1) (by simp [hbx])).swap
  have x0 := h2.pt_cell 0
  have x1 := h2.pt_cell 1
  have hf := pqfind (room := room) s (h2.qR hq) hl
  have Hq := Lib.hid hq
  rw [hn] at hf hl
  have n1 : (n : Int) ≤ 1000000 := by omega
  have hle := findQ_le s D
  have Hn := Lib.hid hn
  rw [hn] at hle ⊢
  obtain ⟨⟨at_, is⟩, hfd⟩ : ∃ r, findQ s D = r := ⟨_, rfl⟩
  rw [hfd] at hf hle
  have Hfd := Lib.hid hfd
  clear hq h1 hl hn hfd
  rw [hbx]
  go_enter Tryz.func81, Tryz.ntmps81
  go_wp2_with fail
  refine hf.mono ?_
  rintro y w1 ⟨rfl, hb3⟩
  have h3 := h2.of_below hb3
  simp only at hle ⊢
  clear hf h2 x0 x1 hb3
  have x1 := h3.pt_cell 1
  have y0 := h3.swap.pt_cell 0
  have y1 := h3.swap.pt_cell 1
  have y2 := h3.swap.pt_cell 2
  have z0 := h3.swap.pt_free 0
  have z1 := h3.swap.pt_free 1
  have z2 := h3.swap.pt_free 2
  simp only [List.getElem?_toArray, List.getElem?_cons_zero, List.getElem?_cons_succ] at x1 y0 y1 y2
  cases is with
  | false =>
    have Hv := Lib.hid (show ofQ s D = none by rw [ofQ, Hfd.out]; rfl)
    go_wp2_with fail
    have h4 := ((h3.swap.set (j := 0) (.string ⟨#[]⟩)).set (j := 1) (.string ⟨#[]⟩)).set (j := 2) (.int .i64 0)
    generalize ((w1.setCell _ _).setCell _ _).setCell _ _ = wz at h4 ⊢
    have k0 := h4.pt_cell 0
    have k1 := h4.pt_cell 1
    have k2 := h4.pt_cell 2
    simp only [List.setIfInBounds_toArray, List.set_cons_zero, List.set_cons_succ, List.getElem?_toArray, List.getElem?_cons_zero, List.getElem?_cons_succ] at k0 k1 k2
    refine bodyPost_ret (v := .tuple #[.agg #[.string ⟨#[]⟩, .string ⟨#[]⟩, .int .i64 0], .bool false]) (by simp [results, Tryz.results81, go_sem, k0, k1, k2]) rfl ?_
    rw [Hv.out]
    exact ⟨rfl, hbx ▸ h4.below⟩
  | true =>
    obtain ⟨x, hx, hxn⟩ := findQ_hit (s := s) (D := D) (by rw [Hfd.out])
    rw [Hfd.out] at hx
    have Hv := Lib.hid (show ofQ s D = some x by rw [ofQ, Hfd.out, if_pos rfl]; exact hx)
    have hlt : at_ < n := by rw [← Hn.out]; exact (List.getElem?_eq_some_iff.1 hx).1
    obtain ⟨g, off, c', e, c1, c2, c3⟩ := q_at (h3.qR Hq.out) hx
    rw [Hn.out] at e
    cases e
    have i1 : (at_ : Int) < (n : Int) := by omega
    clear hx hxn
    go_wp2_with fail
    have h4 := ((h3.swap.set (j := 0) (.string (bA x.name))).set (j := 1) (.string (bA x.bytes))).set (j := 2) (.int .i64 (x.synced : Int))
    generalize ((w1.setCell _ _).setCell _ _).setCell _ _ = wz at h4 ⊢
    have k0 := h4.pt_cell 0
    have k1 := h4.pt_cell 1
    have k2 := h4.pt_cell 2
    simp only [List.setIfInBounds_toArray, List.set_cons_zero, List.set_cons_succ, List.getElem?_toArray, List.getElem?_cons_zero, List.getElem?_cons_succ] at k0 k1 k2
    refine bodyPost_ret (v := .tuple #[.agg #[.string (bA x.name), .string (bA x.bytes), .int .i64 (x.synced : Int)], .bool true]) (by simp [results, Tryz.results81, go_sem, k0, k1, k2]) rfl ?_
    rw [Hv.out]
    exact ⟨rfl, hbx ▸ h4.below⟩
end
end Go.Proofs.YtdngjkjoahgelaaGreatDoor

namespace Go.Proofs.YtdngjkjoahgelaaGreatDoor
set_option linter.all false
set_option maxRecDepth 100000
set_option maxHeartbeats 2000000
open Go.RowKit
theorem qElem : Elem Tryz.prog 52 117 (.agg #[.string ⟨#[]⟩, .string ⟨#[]⟩, .int .i64 0]) 3 40 :=
  ⟨Tryz.underlying52, by kernel_rfl, rfl, by decide, by simp [Value.cells, Value.oneCell']⟩
section
variable {B w w' : World} {L : List HP} {room : Int} {D : Fls} {v : Value}
theorem pqwithout (s : Bt) (hq : qR w v D) (hl : D.length ≤ 1000000) : Calls Tryz.prog 83 #[qval room v, .string (bA s)] w fun y w' => ∃ v', y = .returned (qval room v') ∧ Sat w (qrow v' (delF s D) :: []) w' := by
  obtain ⟨a, c, rfl⟩ := hq.len
  obtain ⟨n, hn⟩ : ∃ n, D.length = n := ⟨_, rfl⟩
  obtain ⟨bx, hbx⟩ : ∃ bx, w.heap.size = bx := ⟨_, rfl⟩
  have h1 := (Sat.start w).alloc' (.cells #[.int .i64 room, .slice a n c] 54) (n := bx) hbx.symm
  have h2 := (h1.alloc' (.cells #[.int .i64 0, .slice none 0 0] 54) (n := bx + 1) (by simp [hbx]))
  have h3 : Sat w (row 117 3 (.slice none 0 0) 0 [] :: _) _ := Sat.row_nil h2 117 3
  have h4 : Sat w (qrow (.slice none 0 0) (delF s (D.take 0)) :: pt (bx + 1) (.cells #[.int .i64 0, .slice none 0 0] 54) :: pt bx (.cells #[.int .i64 room, .slice a n c] 54) :: []) _ := h3
  have Hq := Lib.hid hq
  have Hn := Lib.hid hn
  have Hl := Lib.hid hl
  have n1 : (n : Int) ≤ 1000000 := by omega
  rw [hn]
  clear hq h1 h2 h3 hl hn
  go_enter Tryz.func83, Tryz.ntmps83
  go_wp2_with fail
  go_loopg [5, 6] (n + 1) (fun gh v5 v6 wr => ∃ i : Nat, i ≤ n ∧ n + 1 ≤ i + gh ∧ v6 = .int .i64 (i : Int) ∧ Sat w (qrow v5 (delF s (D.take i)) :: pt (bx + 1) (.cells #[.int .i64 0, .slice none 0 0] 54) :: pt bx (.cells #[.int .i64 room, .slice a n c] 54) :: []) wr)
  case atStart => exact ⟨0, by omega, by omega, rfl, h4⟩
  case round =>
    obtain ⟨i, hi1, hi2, rfl, h5⟩ := hrel
    clear h4
    have x0 : wr.cell? ⟨bx, 0, none⟩ = some (.int .i64 room) := h5.p2.pt_cell 0
    have x1 : wr.cell? ⟨bx, 1, none⟩ = some (.slice a n c) := h5.p2.pt_cell 1
    by_cases hi : i < n
    · obtain ⟨x, hx⟩ : ∃ x, D[i]? = some x := ⟨_, List.getElem?_eq_getElem (by rw [Hn.out]; exact hi)⟩
      obtain ⟨g, off, c', e, c1, c2, c3⟩ := q_at (h5.qR Hq.out) hx
      rw [Hn.out] at e
      cases e
      have i1 : (i : Int) < (n : Int) := by omega
      have htk : D.take (i + 1) = D.take i ++ [x] := by rw [List.take_add_one, hx]; rfl
      obtain ⟨E, hE⟩ : ∃ E, delF s (D.take i) = E := ⟨_, rfl⟩
      have hEl : E.length ≤ i := by
        rw [← hE]
        exact Nat.le_trans (List.length_filter_le _ _) (by rw [List.length_take]; omega)
      rw [hE] at h5
      by_cases hs : x.name = s
      · have hd : delF s (D.take (i + 1)) = E := by rw [htk, delF, delBy, List.filter_append, List.filter_cons, if_neg (by simpa using hs)]; simpa [delBy] using hE
        have Hd := Lib.hid hd
        have b1 : (x.name == s) = true := by simpa using hs
        have b2 : (x.name != s) = false := by simpa using hs
        clear hd hx htk hE hs
        go_wp2_with fail
        go_roundg (gk - 1)
        case measure => omega
        case rel => exact ⟨i + 1, by omega, by omega, by go_num, by rw [Hd.out]; exact h5⟩
      · have hd : delF s (D.take (i + 1)) = E ++ [x] := by rw [htk, delF, delBy, List.filter_append, List.filter_cons, if_pos (by simpa using hs)]; rw [← hE]; rfl
        have Hd := Lib.hid hd
        have b1 : (x.name == s) = false := by simpa using hs
        have b2 : (x.name != s) = true := by simpa using hs
        have h6 := (h5.alloc (.cells #[.string (bA x.name), .string (bA x.bytes), .int .i64 (x.synced : Int)] 117)).swap
        have h6' : Sat w (row 117 3 u5 E.length (E.flatMap qC) :: _) _ := h6
        have b4 : E.length + 1 ≤ maxLen := by have := Hl.out; have := Hn.out; unfold maxLen; omega
        have b5 : (E.length + 1) * 40 ≤ 140737488355328 := by have := Hl.out; have := Hn.out; omega
        have hone : ∀ u ∈ [Value.string (bA x.name), .string (bA x.bytes), .int .i64 (x.synced : Int)], u.oneCell' = true := by
          intro u hu
          simp only [List.mem_cons, List.not_mem_nil, or_false] at hu
          rcases hu with rfl | rfl | rfl <;> rfl
        have hrn : reads (wr.alloc (.cells #[.string (bA x.name), .string (bA x.bytes), .int .i64 (x.synced : Int)] 117)) (.slice (some ⟨wr.heap.size, 0, none⟩) 1 1) 1 [.string (bA x.name), .string (bA x.bytes), .int .i64 (x.synced : Int)] := reads_new _ _ rfl (by omega)
        clear hd hx htk hE hs h6
        go_wp2_with (at_builtin; refine wpList_append_row rfl qElem (.tmp 22) (.tmp 28) rfl u5 _ E.length 1 (E.flatMap qC) [.string (bA x.name), .string (bA x.bytes), .int .i64 (x.synced : Int)] rfl rfl h6' hrn rfl hone b4 b5 ?_; intro a' c' w8 h8; go_frame)
        go_roundg (gk - 1)
        case measure => omega
        case rel =>
          refine ⟨i + 1, by omega, by omega, by go_num, ?_⟩
          rw [Hd.out]
          have h9 := h8.swap.drop
          show Sat w (row 117 3 _ (E ++ [x]).length ((E ++ [x]).flatMap qC) :: _) _
          rw [List.length_append, List.flatMap_append]
          exact h9
    · obtain rfl : i = n := by omega
      have hni : ¬ (i : Int) < (i : Int) := by omega
      have htk : D.take i = D := List.take_of_length_le (by rw [Hn.out]; exact Nat.le_refl _)
      rw [htk] at h5
      have hqr := h5.q_row
      obtain ⟨a5, c5, rfl⟩ := hqr.len
      obtain ⟨n5, hn5⟩ : ∃ n5, (delF s D).length = n5 := ⟨_, rfl⟩
      rw [hn5] at h5 ⊢
      have y0 : wr.cell? ⟨bx + 1, 0, none⟩ = some (.int .i64 0) := h5.swap.pt_cell 0
      have y1 : wr.cell? ⟨bx + 1, 1, none⟩ = some (.slice none 0 0) := h5.swap.pt_cell 1
      have z0 := h5.swap.pt_free 0
      have z1 := h5.swap.pt_free 1
      clear htk hqr
      go_wp2_with fail
      have h6 := (h5.swap.set (j := 0) (.int .i64 room)).set (j := 1) (.slice a5 n5 c5)
      generalize (wr.setCell _ _).setCell _ _ = wz at h6 ⊢
      have k0 := h6.pt_cell 0
      have k1 := h6.pt_cell 1
      simp only [List.setIfInBounds_toArray, List.set_cons_zero, List.set_cons_succ, List.getElem?_toArray, List.getElem?_cons_zero, List.getElem?_cons_succ] at k0 k1
      refine bodyPost_ret (v := qval room (.slice a5 n5 c5)) ?_ rfl ?_
      · simp [results, Tryz.results83, go_sem, k0, k1]
      · refine ⟨_, rfl, ?_⟩
        rw [← hn5] at h6 ⊢
        exact h6.drop.swap.drop
end
end Go.Proofs.YtdngjkjoahgelaaGreatDoor

namespace Go.Proofs.YtdngjkjoahgelaaGreatDoor
set_option linter.all false
set_option maxRecDepth 100000
set_option maxHeartbeats 2000000
open Go.RowKit
/-- 'with': a file at its place. -/
def withQ (f : Fl) (D : Fls) : Fls := D.take (findQ f.name D).1 ++ f :: D.drop ((findQ f.name D).1 + (if (findQ f.name D).2 = true then 1 else 0))
theorem findQ_lt {s : Bt} {D : Fls} (h : (findQ s D).2 = true) : (findQ s D).1 < D.length := by
  obtain ⟨x, hx, _⟩ := findQ_hit h
  exact (List.getElem?_eq_some_iff.1 hx).1
theorem fl_one (f : Fl) : ∀ u ∈ [Value.string (bA f.name), .string (bA f.bytes), .int .i64 (f.synced : Int)], u.oneCell' = true := by
  intro u hu
  simp only [List.mem_cons, List.not_mem_nil, or_false] at hu
  rcases hu with rfl | rfl | rfl <;> rfl
section
variable {B w w' : World} {L : List HP} {room : Int} {D : Fls} {v : Value}
theorem Sat.q_own {M : Nat} {xs : List Value} (h : Sat B (row 117 3 v M xs :: L) w) (hM : D.length = M) (hx : D.flatMap qC = xs) : Sat B (qrow v D :: L) w := by
  subst hM; subst hx
  exact h
theorem pqwith (f : Fl) (hq : qR w v D) (hl : D.length ≤ 1000000) : Calls Tryz.prog 82 #[qval room v, .agg #[.string (bA f.name), .string (bA f.bytes), .int .i64 (f.synced : Int)]] w fun y w' => ∃ v', y = .returned (qval room v') ∧ Sat w (qrow v' (withQ f D) :: []) w' := by
  obtain ⟨bx, hbx⟩ : ∃ bx, w.heap.size = bx := ⟨_, rfl⟩
  obtain ⟨n, hn⟩ : ∃ n, D.length = n := ⟨_, rfl⟩
  have h1 := (Sat.start w).alloc' (.cells #[.int .i64 room, v] 54) (n := bx) hbx.symm
  have h2 := h1.alloc' (.cells #[.string (bA f.name), .string (bA f.bytes), .int .i64 (f.synced : Int)] 117) (n := bx + 1) (by simp [hbx])
  have h3 := h2.alloc' (.cells #[.int .i64 0, .slice none 0 0] 54) (n := bx + 2) (by simp [hbx])
  have hf := pqfind (room := room) f.name (h3.qR hq) hl
  obtain ⟨⟨at_, is⟩, hfd⟩ : ∃ r, findQ f.name D = r := ⟨_, rfl⟩
  have hle := findQ_le f.name D
  have hlt := findQ_lt (s := f.name) (D := D)
  rw [hfd, hn] at hle hlt
  rw [hfd] at hf
  rw [hn] at hl
  simp only at hle hlt hf
  have hx0 := h3.p2.pt_cell 0
  have hx1 := h3.p2.pt_cell 1
  have hy0 := h3.swap.pt_cell 0
  have hy1 := h3.swap.pt_cell 1
  have hy2 := h3.swap.pt_cell 2
  simp only [List.getElem?_toArray, List.getElem?_cons_zero, List.getElem?_cons_succ] at hx0 hx1 hy0 hy1 hy2
  have Hq := Lib.hid hq
  have Hfd := Lib.hid hfd
  have Hn := Lib.hid hn
  obtain ⟨hr, hform⟩ := hq
  rcases hform with ⟨rfl, hD⟩ | ⟨g, off, c, rfl, hnc, hcm⟩
  · subst hD
    obtain rfl : n = 0 := by rw [← hn]; rfl
    obtain rfl : at_ = 0 := by omega
    obtain rfl : is = false := by
      cases is with
      | false => rfl
      | true => exact absurd (hlt rfl) (by omega)
    clear hr hn hfd hlt hle h1 h2
    go_enter Tryz.func82, Tryz.ntmps82
    go_wp2_with fail
    refine hf.mono ?_
    rintro y w4 ⟨rfl, hb4⟩
    have h4 := h3.of_below hb4
    clear hf h3 hx0 hx1 hy0 hy1 hy2 hb4
    have x0 := h4.p2.pt_cell 0
    have x1 := h4.p2.pt_cell 1
    have y0 := h4.swap.pt_cell 0
    have y1 := h4.swap.pt_cell 1
    have y2 := h4.swap.pt_cell 2
    simp only [List.getElem?_toArray, List.getElem?_cons_zero, List.getElem?_cons_succ] at x0 x1 y0 y1 y2
    have h5 : Sat w (row 117 3 (.slice none 0 0) 0 [] :: _) _ := Sat.row_nil h4 117 3
    have hrn0 : reads w4 (.slice none 0 0) 0 [] := ⟨none, 0, rfl, fun _ => ⟨rfl, rfl⟩, Nat.le_refl _, Nat.zero_le _, fun j u h => by simp at h⟩
    have b1 : 0 + 0 ≤ maxLen := by unfold maxLen; omega
    have c1 : 0 + 1 ≤ maxLen := by unfold maxLen; omega
    go_wp2_with (first
      | (at_builtin; refine wpList_append_row rfl qElem (.tmp 15) (.tmp 19) rfl (.slice none 0 0) (.slice none 0 0) 0 0 [] [] rfl rfl h5 hrn0 rfl (by simp) b1 (by omega) ?_; intro a6 c6 w6 h6; have z0 := (h6.p2).pt_cell 0; have z1 := (h6.p2).pt_cell 1; have z2 := (h6.p2).pt_cell 2; simp only [List.getElem?_toArray, List.getElem?_cons_zero, List.getElem?_cons_succ, Nat.zero_add] at z0 z1 z2 ⊢; go_frame)
      | (at_builtin; refine wpList_append_row rfl qElem (.tmp 21) (.tmp 23) rfl (.slice a6 0 c6) (.slice (some ⟨w6.heap.size, 0, none⟩) 1 1) 0 1 [] [.string (bA f.name), .string (bA f.bytes), .int .i64 (f.synced : Int)] rfl rfl (h6.alloc (.cells #[.string (bA f.name), .string (bA f.bytes), .int .i64 (f.synced : Int)] 117)).swap (reads_new _ _ rfl (by omega)) rfl (fl_one f) c1 (by omega) ?_; intro a7 c7 w7 h7; go_frame))
    simp only [Nat.zero_add, List.nil_append] at h7 ⊢
    have x0 := h7.p4.pt_cell 0
    have x1 := h7.p4.pt_cell 1
    simp only [List.getElem?_toArray, List.getElem?_cons_zero, List.getElem?_cons_succ] at x0 x1
    clear y0 y1 y2 h4 h5 h6 hrn0 b1 c1
    have h8 := h7.drew
    have hrn0 : reads w7.drew (.slice none 0 0) 0 [] := ⟨none, 0, rfl, fun _ => ⟨rfl, rfl⟩, Nat.le_refl _, Nat.zero_le _, fun j u h => by simp at h⟩
    have b1 : 1 + 0 ≤ maxLen := by unfold maxLen; omega
    go_region_law (refine step_append_row rfl qElem (.tmp 30) (.tmp 34) rfl (.slice a7 1 c7) (.slice none 0 0) 1 0 [.string (bA f.name), .string (bA f.bytes), .int .i64 (f.synced : Int)] [] rfl rfl h8 hrn0 rfl (by simp) b1 (by omega) ?_; intro a' c' w' hS; have hc0 : w'.cell? ⟨bx + 2, 0, none⟩ = some (.int .i64 0) := hS.p2.pt_cell 0; have hc1 : w'.cell? ⟨bx + 2, 1, none⟩ = some (.slice none 0 0) := hS.p2.pt_cell 1; have e0 : w'.cell? ⟨bx, 0, none⟩ = some (.int .i64 room) := hS.p4.pt_cell 0; have e1 : w'.cell? ⟨bx, 1, none⟩ = some (.slice none 0 0) := hS.p4.pt_cell 1; have hf0 := hS.p2.pt_free 0; have hf1 := hS.p2.pt_free 1)
    all_goals
      go_wp2_with fail
      have h9 := (hS.p2.set (j := 0) (.int .i64 room)).set (j := 1) (.slice a' 1 c')
      have h9' : Sat w (qrow (.slice a' 1 c') [f] :: _) _ := h9.swap
      generalize (World.setCell _ _ _).setCell _ _ = wz at h9 h9' ⊢
      have k0 := h9.pt_cell 0
      have k1 := h9.pt_cell 1
      simp only [List.setIfInBounds_toArray, List.set_cons_zero, List.set_cons_succ, List.getElem?_toArray, List.getElem?_cons_zero, List.getElem?_cons_succ] at k0 k1
      refine bodyPost_ret (v := qval room (.slice a' 1 c')) (by simp [results, Tryz.results82, go_sem, k0, k1]) rfl ?_
      refine ⟨_, rfl, ?_⟩
      have e9 : withQ f [] = [f] := rfl
      rw [e9]
      exact h9'.swap.drop.swap.drop.swap.drop.swap.drop
  · obtain ⟨m, hm⟩ : ∃ m, at_ + (if is = true then 1 else 0) = m := ⟨_, rfl⟩
    have hmn : m ≤ n := by
      cases is with
      | false => simp at hm; omega
      | true => have := hlt rfl; simp at hm; omega
    have hmc : m ≤ c := by omega
    have hac : at_ ≤ c := by omega
    have hcm' : c ≤ 9223372036854775807 := by simpa [maxLen] using hcm
    rw [hn] at hnc hr hf h1 h2 h3 hx0 hx1 hy0 hy1 hy2
    have Hw := Lib.hid (show withQ f D = D.take at_ ++ f :: D.drop m by rw [withQ, hfd, hm])
    have Hm := Lib.hid hm
    have Hmn := Lib.hid hmn
    have Hr := Lib.hid hr
    have i4 : (n : Int) ≤ 1000000 := by omega
    have i5 : (at_ : Int) ≤ (n : Int) := by omega
    have i6 : (c : Int) ≤ 9223372036854775807 := by omega
    rw [hn]
    clear hn hfd hlt h1 h2 hm hr hmn
    have hcase : (is = false ∧ at_ = m ∨ is = true ∧ at_ + 1 = m) ∧ (c = m ∨ c ≠ m) := by
      refine ⟨?_, by omega⟩
      have := Hm.out
      cases is with
      | false => left; simp at this; exact ⟨rfl, this⟩
      | true => right; simp at this; exact ⟨rfl, this⟩
    have j1 : IntKind.i64.wrap ((at_ : Int) + 1) = (at_ : Int) + 1 := IntWalk.i64_in _ (by omega)
    have j2 : 0 ≤ (at_ : Int) + 1 := by omega
    have j3 : ((at_ : Int) + 1).toNat = at_ + 1 := by omega
    have hmn := Hmn.out
    have j4 : (m : Int) ≤ (n : Int) := by omega
    obtain ⟨hcase, hlast⟩ := hcase
    rcases hcase with ⟨rfl, hmm⟩ | ⟨rfl, hmm⟩ <;> subst hmm <;> rcases hlast with hlast | hlast
    any_goals (have hl' := hlast.symm; subst hl')
    · go_enter Tryz.func82, Tryz.ntmps82
      go_wp2_with fail
      refine hf.mono ?_
      rintro y w4 ⟨rfl, hb4⟩
      have h4 := h3.of_below hb4
      clear hf h3 hx0 hx1 hy0 hy1 hy2 hb4
      have x0 := h4.p2.pt_cell 0
      have x1 := h4.p2.pt_cell 1
      have y0 := h4.swap.pt_cell 0
      have y1 := h4.swap.pt_cell 1
      have y2 := h4.swap.pt_cell 2
      simp only [List.getElem?_toArray, List.getElem?_cons_zero, List.getElem?_cons_succ] at x0 x1 y0 y1 y2
      have h5 : Sat w (row 117 3 (.slice none 0 0) 0 [] :: _) _ := Sat.row_nil h4 117 3
      have hrt := reads_take (h4.reads Hr.out) at_ (at_ * 3) hle
      rw [qc_take] at hrt
      have hlt3 : ((D.take at_).flatMap qC).length = at_ * 3 := by rw [qc_len, List.length_take, Hn.out, Nat.min_eq_left hle]
      have b1 : 0 + at_ ≤ maxLen := by unfold maxLen; omega
      have c1 : at_ + 1 ≤ maxLen := by unfold maxLen; omega
      have b2 : (0 + at_) * 40 ≤ 140737488355328 := by omega
      have c2 : (at_ + 1) * 40 ≤ 140737488355328 := by omega
      go_wp2_with (first
        | (at_builtin; refine wpList_append_row rfl qElem (.tmp 15) (.tmp 19) rfl (.slice none 0 0) _ 0 at_ [] ((D.take at_).flatMap qC) rfl rfl h5 hrt hlt3 (qc_one _) b1 b2 ?_; intro a6 c6 w6 h6; have z0 := (h6.p2).pt_cell 0; have z1 := (h6.p2).pt_cell 1; have z2 := (h6.p2).pt_cell 2; simp only [List.getElem?_toArray, List.getElem?_cons_zero, List.getElem?_cons_succ, Nat.zero_add, List.nil_append] at z0 z1 z2 h6 ⊢; go_frame)
        | (at_builtin; refine wpList_append_row rfl qElem (.tmp 21) (.tmp 23) rfl (.slice a6 at_ c6) (.slice (some ⟨w6.heap.size, 0, none⟩) 1 1) at_ 1 ((D.take at_).flatMap qC) [.string (bA f.name), .string (bA f.bytes), .int .i64 (f.synced : Int)] rfl rfl (h6.alloc (.cells #[.string (bA f.name), .string (bA f.bytes), .int .i64 (f.synced : Int)] 117)).swap (reads_new _ _ rfl (by omega)) rfl (fl_one f) c1 c2 ?_; intro a7 c7 w7 h7; go_frame))
      try go_wp2_with fail
      have x0 := h7.p4.pt_cell 0
      have x1 := h7.p4.pt_cell 1
      simp only [List.getElem?_toArray, List.getElem?_cons_zero, List.getElem?_cons_succ] at x0 x1
      have h8 := h7.drew
      have hnk : n = at_ := by omega
      have hd0 : D.drop (at_) = [] := List.drop_of_length_le (by rw [Hn.out]; omega)
      have Hd0 := Lib.hid hd0
      have Hnk := Lib.hid hnk
      clear hnk hd0
      have R1 : reads w7.drew (.slice (some ⟨g, off, none⟩) 0 0) 0 [] := ⟨_, _, rfl, (fun e => by cases e), Nat.le_refl _, Nat.zero_le _, fun j u h => by simp at h⟩
      have hl4 : ([] : List Value).length = 0 * 3 := rfl
      have hq1 : ∀ u ∈ ([] : List Value), u.oneCell' = true := by simp
      have d1 : at_ + 1 + 0 ≤ maxLen := by unfold maxLen; omega
      have d2 : (at_ + 1 + 0) * 40 ≤ 140737488355328 := by omega
      clear y0 y1 y2 h4 h5 h6 hrt hlt3 b1 c1 b2 c2
      go_region_law (refine step_append_row rfl qElem (.tmp 30) (.tmp 34) rfl (.slice a7 (at_ + 1) c7) _ (at_ + 1) 0 _ [] rfl rfl h8 R1 hl4 hq1 d1 d2 ?_; intro a' c' w' hS; have hc0 : w'.cell? ⟨bx + 2, 0, none⟩ = some (.int .i64 0) := hS.p2.pt_cell 0; have hc1 : w'.cell? ⟨bx + 2, 1, none⟩ = some (.slice none 0 0) := hS.p2.pt_cell 1; have e0 : w'.cell? ⟨bx, 0, none⟩ = some (.int .i64 room) := hS.p4.pt_cell 0; have e1 := hS.p4.pt_cell 1; simp only [List.getElem?_toArray, List.getElem?_cons_zero, List.getElem?_cons_succ] at e1; have hf0 := hS.p2.pt_free 0; have hf1 := hS.p2.pt_free 1)
      all_goals
        go_wp2_with fail
        have h9 := (hS.p2.set (j := 0) (.int .i64 room)).set (j := 1) (.slice a' (at_ + 1 + 0) c')
        generalize (World.setCell _ _ _).setCell _ _ = wz at h9 ⊢
        have k0 := h9.pt_cell 0
        have k1 := h9.pt_cell 1
        simp only [List.setIfInBounds_toArray, List.set_cons_zero, List.set_cons_succ, List.getElem?_toArray, List.getElem?_cons_zero, List.getElem?_cons_succ] at k0 k1
        refine bodyPost_ret (v := qval room (.slice a' (at_ + 1 + 0) c')) (by simp [results, Tryz.results82, go_sem, k0, k1]) rfl ?_
        refine ⟨_, rfl, ?_⟩
        have h9' := h9.swap
        rw [Hw.out]
        have hlw : (D.take at_ ++ f :: D.drop (at_)).length = at_ + 1 + 0 := by rw [Hd0.out, List.length_append, List.length_cons, List.length_take, Hn.out, Nat.min_eq_left hle]; rfl
        have hcw : (D.take at_ ++ f :: D.drop (at_)).flatMap qC = (D.take at_).flatMap qC ++ [.string (bA f.name), .string (bA f.bytes), .int .i64 (f.synced : Int)] ++ [] := by rw [Hd0.out, qc_cat, List.append_nil]; rfl
        exact (Sat.q_own h9' hlw hcw).swap.drop.swap.drop.swap.drop.swap.drop
    · go_enter Tryz.func82, Tryz.ntmps82
      go_wp2_with fail
      refine hf.mono ?_
      rintro y w4 ⟨rfl, hb4⟩
      have h4 := h3.of_below hb4
      clear hf h3 hx0 hx1 hy0 hy1 hy2 hb4
      have x0 := h4.p2.pt_cell 0
      have x1 := h4.p2.pt_cell 1
      have y0 := h4.swap.pt_cell 0
      have y1 := h4.swap.pt_cell 1
      have y2 := h4.swap.pt_cell 2
      simp only [List.getElem?_toArray, List.getElem?_cons_zero, List.getElem?_cons_succ] at x0 x1 y0 y1 y2
      have h5 : Sat w (row 117 3 (.slice none 0 0) 0 [] :: _) _ := Sat.row_nil h4 117 3
      have hrt := reads_take (h4.reads Hr.out) at_ (at_ * 3) hle
      rw [qc_take] at hrt
      have hlt3 : ((D.take at_).flatMap qC).length = at_ * 3 := by rw [qc_len, List.length_take, Hn.out, Nat.min_eq_left hle]
      have b1 : 0 + at_ ≤ maxLen := by unfold maxLen; omega
      have c1 : at_ + 1 ≤ maxLen := by unfold maxLen; omega
      have b2 : (0 + at_) * 40 ≤ 140737488355328 := by omega
      have c2 : (at_ + 1) * 40 ≤ 140737488355328 := by omega
      go_wp2_with (first
        | (at_builtin; refine wpList_append_row rfl qElem (.tmp 15) (.tmp 19) rfl (.slice none 0 0) _ 0 at_ [] ((D.take at_).flatMap qC) rfl rfl h5 hrt hlt3 (qc_one _) b1 b2 ?_; intro a6 c6 w6 h6; have z0 := (h6.p2).pt_cell 0; have z1 := (h6.p2).pt_cell 1; have z2 := (h6.p2).pt_cell 2; simp only [List.getElem?_toArray, List.getElem?_cons_zero, List.getElem?_cons_succ, Nat.zero_add, List.nil_append] at z0 z1 z2 h6 ⊢; go_frame)
        | (at_builtin; refine wpList_append_row rfl qElem (.tmp 21) (.tmp 23) rfl (.slice a6 at_ c6) (.slice (some ⟨w6.heap.size, 0, none⟩) 1 1) at_ 1 ((D.take at_).flatMap qC) [.string (bA f.name), .string (bA f.bytes), .int .i64 (f.synced : Int)] rfl rfl (h6.alloc (.cells #[.string (bA f.name), .string (bA f.bytes), .int .i64 (f.synced : Int)] 117)).swap (reads_new _ _ rfl (by omega)) rfl (fl_one f) c1 c2 ?_; intro a7 c7 w7 h7; go_frame))
      try go_wp2_with fail
      have x0 := h7.p4.pt_cell 0
      have x1 := h7.p4.pt_cell 1
      simp only [List.getElem?_toArray, List.getElem?_cons_zero, List.getElem?_cons_succ] at x0 x1
      have h8 := h7.drew
      have R0 := reads_tail (h8.reads Hr.out) (at_) 3 (by omega) (by rw [qc_len, Hn.out])
      rw [qc_drop] at R0
      have R1 := R0.2 hlast
      clear R0
      have hl4 : ((D.drop (at_)).flatMap qC).length = (n - (at_)) * 3 := by rw [qc_len, List.length_drop, Hn.out]
      have hq1 := qc_one (D.drop (at_))
      have d1 : at_ + 1 + (n - (at_)) ≤ maxLen := by unfold maxLen; omega
      have d2 : (at_ + 1 + (n - (at_))) * 40 ≤ 140737488355328 := by omega
      clear y0 y1 y2 h4 h5 h6 hrt hlt3 b1 c1 b2 c2
      go_region_law (refine step_append_row rfl qElem (.tmp 30) (.tmp 34) rfl (.slice a7 (at_ + 1) c7) _ (at_ + 1) (n - (at_)) _ ((D.drop (at_)).flatMap qC) rfl rfl h8 R1 hl4 hq1 d1 d2 ?_; intro a' c' w' hS; have hc0 : w'.cell? ⟨bx + 2, 0, none⟩ = some (.int .i64 0) := hS.p2.pt_cell 0; have hc1 : w'.cell? ⟨bx + 2, 1, none⟩ = some (.slice none 0 0) := hS.p2.pt_cell 1; have e0 : w'.cell? ⟨bx, 0, none⟩ = some (.int .i64 room) := hS.p4.pt_cell 0; have e1 := hS.p4.pt_cell 1; simp only [List.getElem?_toArray, List.getElem?_cons_zero, List.getElem?_cons_succ] at e1; have hf0 := hS.p2.pt_free 0; have hf1 := hS.p2.pt_free 1)
      all_goals
        go_wp2_with fail
        have h9 := (hS.p2.set (j := 0) (.int .i64 room)).set (j := 1) (.slice a' (at_ + 1 + (n - (at_))) c')
        generalize (World.setCell _ _ _).setCell _ _ = wz at h9 ⊢
        have k0 := h9.pt_cell 0
        have k1 := h9.pt_cell 1
        simp only [List.setIfInBounds_toArray, List.set_cons_zero, List.set_cons_succ, List.getElem?_toArray, List.getElem?_cons_zero, List.getElem?_cons_succ] at k0 k1
        refine bodyPost_ret (v := qval room (.slice a' (at_ + 1 + (n - (at_))) c')) (by simp [results, Tryz.results82, go_sem, k0, k1]) rfl ?_
        refine ⟨_, rfl, ?_⟩
        have h9' := h9.swap
        rw [Hw.out]
        have hlw : (D.take at_ ++ f :: D.drop (at_)).length = at_ + 1 + (n - (at_)) := by rw [List.length_append, List.length_cons, List.length_take, List.length_drop, Hn.out, Nat.min_eq_left hle]; omega
        have hcw : (D.take at_ ++ f :: D.drop (at_)).flatMap qC = (D.take at_).flatMap qC ++ [.string (bA f.name), .string (bA f.bytes), .int .i64 (f.synced : Int)] ++ (D.drop (at_)).flatMap qC := by rw [qc_cat, List.flatMap_cons, List.append_assoc]; rfl
        exact (Sat.q_own h9' hlw hcw).swap.drop.swap.drop.swap.drop.swap.drop
    · go_enter Tryz.func82, Tryz.ntmps82
      go_wp2_with fail
      refine hf.mono ?_
      rintro y w4 ⟨rfl, hb4⟩
      have h4 := h3.of_below hb4
      clear hf h3 hx0 hx1 hy0 hy1 hy2 hb4
      have x0 := h4.p2.pt_cell 0
      have x1 := h4.p2.pt_cell 1
      have y0 := h4.swap.pt_cell 0
      have y1 := h4.swap.pt_cell 1
      have y2 := h4.swap.pt_cell 2
      simp only [List.getElem?_toArray, List.getElem?_cons_zero, List.getElem?_cons_succ] at x0 x1 y0 y1 y2
      have h5 : Sat w (row 117 3 (.slice none 0 0) 0 [] :: _) _ := Sat.row_nil h4 117 3
      have hrt := reads_take (h4.reads Hr.out) at_ (at_ * 3) hle
      rw [qc_take] at hrt
      have hlt3 : ((D.take at_).flatMap qC).length = at_ * 3 := by rw [qc_len, List.length_take, Hn.out, Nat.min_eq_left hle]
      have b1 : 0 + at_ ≤ maxLen := by unfold maxLen; omega
      have c1 : at_ + 1 ≤ maxLen := by unfold maxLen; omega
      have b2 : (0 + at_) * 40 ≤ 140737488355328 := by omega
      have c2 : (at_ + 1) * 40 ≤ 140737488355328 := by omega
      go_wp2_with (first
        | (at_builtin; refine wpList_append_row rfl qElem (.tmp 15) (.tmp 19) rfl (.slice none 0 0) _ 0 at_ [] ((D.take at_).flatMap qC) rfl rfl h5 hrt hlt3 (qc_one _) b1 b2 ?_; intro a6 c6 w6 h6; have z0 := (h6.p2).pt_cell 0; have z1 := (h6.p2).pt_cell 1; have z2 := (h6.p2).pt_cell 2; simp only [List.getElem?_toArray, List.getElem?_cons_zero, List.getElem?_cons_succ, Nat.zero_add, List.nil_append] at z0 z1 z2 h6 ⊢; go_frame)
        | (at_builtin; refine wpList_append_row rfl qElem (.tmp 21) (.tmp 23) rfl (.slice a6 at_ c6) (.slice (some ⟨w6.heap.size, 0, none⟩) 1 1) at_ 1 ((D.take at_).flatMap qC) [.string (bA f.name), .string (bA f.bytes), .int .i64 (f.synced : Int)] rfl rfl (h6.alloc (.cells #[.string (bA f.name), .string (bA f.bytes), .int .i64 (f.synced : Int)] 117)).swap (reads_new _ _ rfl (by omega)) rfl (fl_one f) c1 c2 ?_; intro a7 c7 w7 h7; go_frame))
      try go_wp2_with fail
      have x0 := h7.p4.pt_cell 0
      have x1 := h7.p4.pt_cell 1
      simp only [List.getElem?_toArray, List.getElem?_cons_zero, List.getElem?_cons_succ] at x0 x1
      have h8 := h7.drew
      have hnk : n = at_ + 1 := by omega
      have hd0 : D.drop (at_ + 1) = [] := List.drop_of_length_le (by rw [Hn.out]; omega)
      have Hd0 := Lib.hid hd0
      have Hnk := Lib.hid hnk
      clear hnk hd0
      have R1 : reads w7.drew (.slice (some ⟨g, off, none⟩) 0 0) 0 [] := ⟨_, _, rfl, (fun e => by cases e), Nat.le_refl _, Nat.zero_le _, fun j u h => by simp at h⟩
      have hl4 : ([] : List Value).length = 0 * 3 := rfl
      have hq1 : ∀ u ∈ ([] : List Value), u.oneCell' = true := by simp
      have j5 : (at_ : Int) + 1 ≤ (n : Int) := by omega
      have d1 : at_ + 1 + 0 ≤ maxLen := by unfold maxLen; omega
      have d2 : (at_ + 1 + 0) * 40 ≤ 140737488355328 := by omega
      clear y0 y1 y2 h4 h5 h6 hrt hlt3 b1 c1 b2 c2
      go_region_law (refine step_append_row rfl qElem (.tmp 30) (.tmp 34) rfl (.slice a7 (at_ + 1) c7) _ (at_ + 1) 0 _ [] rfl rfl h8 R1 hl4 hq1 d1 d2 ?_; intro a' c' w' hS; have hc0 : w'.cell? ⟨bx + 2, 0, none⟩ = some (.int .i64 0) := hS.p2.pt_cell 0; have hc1 : w'.cell? ⟨bx + 2, 1, none⟩ = some (.slice none 0 0) := hS.p2.pt_cell 1; have e0 : w'.cell? ⟨bx, 0, none⟩ = some (.int .i64 room) := hS.p4.pt_cell 0; have e1 := hS.p4.pt_cell 1; simp only [List.getElem?_toArray, List.getElem?_cons_zero, List.getElem?_cons_succ] at e1; have hf0 := hS.p2.pt_free 0; have hf1 := hS.p2.pt_free 1)
      all_goals
        go_wp2_with fail
        have h9 := (hS.p2.set (j := 0) (.int .i64 room)).set (j := 1) (.slice a' (at_ + 1 + 0) c')
        generalize (World.setCell _ _ _).setCell _ _ = wz at h9 ⊢
        have k0 := h9.pt_cell 0
        have k1 := h9.pt_cell 1
        simp only [List.setIfInBounds_toArray, List.set_cons_zero, List.set_cons_succ, List.getElem?_toArray, List.getElem?_cons_zero, List.getElem?_cons_succ] at k0 k1
        refine bodyPost_ret (v := qval room (.slice a' (at_ + 1 + 0) c')) (by simp [results, Tryz.results82, go_sem, k0, k1]) rfl ?_
        refine ⟨_, rfl, ?_⟩
        have h9' := h9.swap
        rw [Hw.out]
        have hlw : (D.take at_ ++ f :: D.drop (at_ + 1)).length = at_ + 1 + 0 := by rw [Hd0.out, List.length_append, List.length_cons, List.length_take, Hn.out, Nat.min_eq_left hle]; rfl
        have hcw : (D.take at_ ++ f :: D.drop (at_ + 1)).flatMap qC = (D.take at_).flatMap qC ++ [.string (bA f.name), .string (bA f.bytes), .int .i64 (f.synced : Int)] ++ [] := by rw [Hd0.out, qc_cat, List.append_nil]; rfl
        exact (Sat.q_own h9' hlw hcw).swap.drop.swap.drop.swap.drop.swap.drop
    · go_enter Tryz.func82, Tryz.ntmps82
      go_wp2_with fail
      refine hf.mono ?_
      rintro y w4 ⟨rfl, hb4⟩
      have h4 := h3.of_below hb4
      clear hf h3 hx0 hx1 hy0 hy1 hy2 hb4
      have x0 := h4.p2.pt_cell 0
      have x1 := h4.p2.pt_cell 1
      have y0 := h4.swap.pt_cell 0
      have y1 := h4.swap.pt_cell 1
      have y2 := h4.swap.pt_cell 2
      simp only [List.getElem?_toArray, List.getElem?_cons_zero, List.getElem?_cons_succ] at x0 x1 y0 y1 y2
      have h5 : Sat w (row 117 3 (.slice none 0 0) 0 [] :: _) _ := Sat.row_nil h4 117 3
      have hrt := reads_take (h4.reads Hr.out) at_ (at_ * 3) hle
      rw [qc_take] at hrt
      have hlt3 : ((D.take at_).flatMap qC).length = at_ * 3 := by rw [qc_len, List.length_take, Hn.out, Nat.min_eq_left hle]
      have b1 : 0 + at_ ≤ maxLen := by unfold maxLen; omega
      have c1 : at_ + 1 ≤ maxLen := by unfold maxLen; omega
      have b2 : (0 + at_) * 40 ≤ 140737488355328 := by omega
      have c2 : (at_ + 1) * 40 ≤ 140737488355328 := by omega
      go_wp2_with (first
        | (at_builtin; refine wpList_append_row rfl qElem (.tmp 15) (.tmp 19) rfl (.slice none 0 0) _ 0 at_ [] ((D.take at_).flatMap qC) rfl rfl h5 hrt hlt3 (qc_one _) b1 b2 ?_; intro a6 c6 w6 h6; have z0 := (h6.p2).pt_cell 0; have z1 := (h6.p2).pt_cell 1; have z2 := (h6.p2).pt_cell 2; simp only [List.getElem?_toArray, List.getElem?_cons_zero, List.getElem?_cons_succ, Nat.zero_add, List.nil_append] at z0 z1 z2 h6 ⊢; go_frame)
        | (at_builtin; refine wpList_append_row rfl qElem (.tmp 21) (.tmp 23) rfl (.slice a6 at_ c6) (.slice (some ⟨w6.heap.size, 0, none⟩) 1 1) at_ 1 ((D.take at_).flatMap qC) [.string (bA f.name), .string (bA f.bytes), .int .i64 (f.synced : Int)] rfl rfl (h6.alloc (.cells #[.string (bA f.name), .string (bA f.bytes), .int .i64 (f.synced : Int)] 117)).swap (reads_new _ _ rfl (by omega)) rfl (fl_one f) c1 c2 ?_; intro a7 c7 w7 h7; go_frame))
      try go_wp2_with fail
      have x0 := h7.p4.pt_cell 0
      have x1 := h7.p4.pt_cell 1
      simp only [List.getElem?_toArray, List.getElem?_cons_zero, List.getElem?_cons_succ] at x0 x1
      have h8 := h7.drew
      have R0 := reads_tail (h8.reads Hr.out) (at_ + 1) 3 (by omega) (by rw [qc_len, Hn.out])
      rw [qc_drop] at R0
      have R1 := R0.2 hlast
      clear R0
      have hl4 : ((D.drop (at_ + 1)).flatMap qC).length = (n - (at_ + 1)) * 3 := by rw [qc_len, List.length_drop, Hn.out]
      have hq1 := qc_one (D.drop (at_ + 1))
      have j5 : (at_ : Int) + 1 ≤ (n : Int) := by omega
      have d1 : at_ + 1 + (n - (at_ + 1)) ≤ maxLen := by unfold maxLen; omega
      have d2 : (at_ + 1 + (n - (at_ + 1))) * 40 ≤ 140737488355328 := by omega
      clear y0 y1 y2 h4 h5 h6 hrt hlt3 b1 c1 b2 c2
      go_region_law (refine step_append_row rfl qElem (.tmp 30) (.tmp 34) rfl (.slice a7 (at_ + 1) c7) _ (at_ + 1) (n - (at_ + 1)) _ ((D.drop (at_ + 1)).flatMap qC) rfl rfl h8 R1 hl4 hq1 d1 d2 ?_; intro a' c' w' hS; have hc0 : w'.cell? ⟨bx + 2, 0, none⟩ = some (.int .i64 0) := hS.p2.pt_cell 0; have hc1 : w'.cell? ⟨bx + 2, 1, none⟩ = some (.slice none 0 0) := hS.p2.pt_cell 1; have e0 : w'.cell? ⟨bx, 0, none⟩ = some (.int .i64 room) := hS.p4.pt_cell 0; have e1 := hS.p4.pt_cell 1; simp only [List.getElem?_toArray, List.getElem?_cons_zero, List.getElem?_cons_succ] at e1; have hf0 := hS.p2.pt_free 0; have hf1 := hS.p2.pt_free 1)
      all_goals
        go_wp2_with fail
        have hnn : at_ + 1 + (n - (at_ + 1)) = n := by omega
        rw [hnn] at hS
        have h9 := (hS.p2.set (j := 0) (.int .i64 room)).set (j := 1) (.slice a' n c')
        generalize (World.setCell _ _ _).setCell _ _ = wz at h9 ⊢
        have k0 := h9.pt_cell 0
        have k1 := h9.pt_cell 1
        simp only [List.setIfInBounds_toArray, List.set_cons_zero, List.set_cons_succ, List.getElem?_toArray, List.getElem?_cons_zero, List.getElem?_cons_succ] at k0 k1
        refine bodyPost_ret (v := qval room (.slice a' n c')) (by simp [results, Tryz.results82, go_sem, k0, k1]) rfl ?_
        refine ⟨_, rfl, ?_⟩
        have h9' := h9.swap
        rw [Hw.out]
        have hlw : (D.take at_ ++ f :: D.drop (at_ + 1)).length = n := by rw [List.length_append, List.length_cons, List.length_take, List.length_drop, Hn.out, Nat.min_eq_left hle]; omega
        have hcw : (D.take at_ ++ f :: D.drop (at_ + 1)).flatMap qC = (D.take at_).flatMap qC ++ [.string (bA f.name), .string (bA f.bytes), .int .i64 (f.synced : Int)] ++ (D.drop (at_ + 1)).flatMap qC := by rw [qc_cat, List.flatMap_cons, List.append_assoc]; rfl
        exact (Sat.q_own h9' hlw hcw).swap.drop.swap.drop.swap.drop.swap.drop
end
end Go.Proofs.YtdngjkjoahgelaaGreatDoor

namespace Go.Proofs.YtdngjkjoahgelaaGreatDoor
set_option linter.all false
set_option maxRecDepth 100000
set_option maxHeartbeats 2000000
open Go.RowKit
theorem ofQ_eq {s : Bt} : ∀ {D : Fls}, SrtBy Fl.name D → ofQ s D = getF s D
  | [], _ => rfl
  | f :: D, h => by
    obtain ⟨h1, h2⟩ := List.pairwise_cons.1 h
    have ih := ofQ_eq (s := s) (D := D) h2
    unfold ofQ at ih ⊢
    rw [findQ]
    by_cases hf : f.name < s
    · have hne : (f.name == s) = false := by simpa using bt_ne hf
      rw [if_pos hf, getF, getBy, List.find?_cons, hne]
      simpa [getF, getBy] using ih
    · rw [if_neg hf]
      by_cases he : f.name = s
      · simp [he, getF, getBy]
      · have hb : (f.name == s) = false := by simpa using he
        have hlt : s < f.name := by rcases bt_tri s f.name with h | h | h; exact h; exact absurd h.symm he; exact absurd h hf
        have hno : getF s (f :: D) = none := getBy_none' fun a ha => by
          rcases List.mem_cons.1 ha with rfl | ha
          · exact he
          · exact (bt_ne (bt_trans hlt (h1 a ha))).symm
        rw [hno, hb]
        rfl
theorem withQ_eq (f : Fl) : ∀ D : Fls, withQ f D = putF f D
  | [] => rfl
  | y :: D => by
    have ih := withQ_eq f D
    unfold withQ at ih ⊢
    rw [findQ, putF, putBy]
    by_cases h : y.name < f.name
    · rw [if_pos h, if_neg (bt_ne h), if_neg (bt_asymm h)]
      simp only [List.take_succ_cons, List.cons_append]
      rw [Nat.add_right_comm, List.drop_succ_cons, ih]
    · rw [if_neg h]
      by_cases he : y.name = f.name
      · simp [he]
      · have hlt : f.name < y.name := by rcases bt_tri f.name y.name with h' | h' | h'; exact h'; exact absurd h'.symm he; exact absurd h' h
        simp [he, hlt]
theorem bA_app (a b : Bt) : bA a ++ bA b = bA (a ++ b) := by
  apply ByteArray.ext
  apply Array.ext'
  simp
section
variable {B w w' : World} {L : List HP} {room : Nat} {D : Fls} {v : Value}
/-- What comes of a call that answers with a disk: a new one where it answers OK, else the old one. -/
def qOut (w w' : World) (v v' : Value) (r : Int × Fls) : Prop := (r.1 = 0 ∧ Sat w (qrow v' r.2 :: []) w') ∨ (r.1 ≠ 0 ∧ v' = v ∧ Below w.heap.size w w')
theorem qOut.below {v' : Value} {r : Int × Fls} (h : qOut w w' v v' r) : Below w.heap.size w w' := by
  rcases h with ⟨_, h⟩ | ⟨_, _, h⟩
  · exact h.below
  · exact h
/-- 'New'. -/
theorem pqNew (r : Int) (h1 : -9223372036854775808 ≤ r) (h2 : r ≤ 9223372036854775807) : Calls Tryz.prog 50 #[.int .i64 r] w fun y w' => y = .returned (qval (r.toNat : Int) (.slice none 0 0)) ∧ Below w.heap.size w w' := by
  obtain ⟨m, hm⟩ : ∃ m : Nat, r.toNat = m := ⟨_, rfl⟩
  have hmx : max r 0 = (m : Int) := by omega
  rw [hm]
  clear hm
  go_enter Tryz.func50, Tryz.ntmps50
  go_wp2_with fail
  have h4 := (Sat.start w).alloc' (.cells #[.int .i64 (m : Int), .slice none 0 0] 54) (n := w.heap.size) rfl
  have k0 := h4.pt_cell 0
  have k1 := h4.pt_cell 1
  simp only [List.getElem?_toArray, List.getElem?_cons_zero, List.getElem?_cons_succ] at k0 k1
  refine bodyPost_ret (v := qval (m : Int) (.slice none 0 0)) (by simp [results, Tryz.results50, go_sem, k0, k1]) rfl ?_
  exact ⟨rfl, h4.below⟩
/-- 'Append'. -/
theorem pqAppend (s data : Bt) (hq : qR w v D) (hD : DOk room D) (hl : D.length ≤ 1000000) (hu : usedD D ≤ 1099511627776) (hs : s.length ≤ 1000000) (hd : data.length ≤ 1099511627776) :
    Calls Tryz.prog 51 #[qval (room : Int) v, .string (bA s), .string (bA data)] w fun y w' => ∃ v', y = .returned (.tuple #[qval (room : Int) v', .int .i64 (appendD room D s data).1]) ∧ qOut w w' v v' (appendD room D s data) := by
  have hr := hD.room
  obtain ⟨a, c, rfl⟩ := hq.len
  obtain ⟨bx, hbx⟩ : ∃ bx, w.heap.size = bx := ⟨_, rfl⟩
  have h1 := (Sat.start w).alloc' (.cells #[.int .i64 (room : Int), .slice a D.length c] 54) (n := bx) hbx.symm
  have h2 := h1.alloc' (.cells #[.int .i64 0, .slice none 0 0] 54) (n := bx + 1) (by simp [hbx])
  have hname := fun (w' : World) => pqname (w := w') s (by omega)
  have Hq := Lib.hid hq
  have Hl := Lib.hid hl
  have Hu := Lib.hid hu
  have HD := Lib.hid hD
  have hz : (bA data).size = data.length := bA_size data
  have d1 : (data.length : Int) ≤ 1099511627776 := by omega
  clear hq hl hu hD
  by_cases hok : okName s = false
  · have Ha := Lib.hid (show appendD room D s data = (2, D) by rw [appendD, if_pos hok])
    rw [hok] at hname
    clear hok h2
    have h2 := h1.alloc' (.cells #[.int .i64 (room : Int), .slice a D.length c] 54) (n := bx + 1) (by simp [hbx])
    go_enter Tryz.func51, Tryz.ntmps51
    go_wp2_with (go_at_call 80; refine (hname _).mono ?_; rintro y w2 ⟨rfl, rfl⟩)
    have k0 := h2.pt_cell 0
    have k1 := h2.pt_cell 1
    simp only [List.setIfInBounds_toArray, List.set_cons_zero, List.set_cons_succ, List.getElem?_toArray, List.getElem?_cons_zero, List.getElem?_cons_succ] at k0 k1
    refine bodyPost_ret (v := .tuple #[qval (room : Int) (.slice a D.length c), .int .i64 2]) (by simp [results, Tryz.results51, go_sem, k0, k1]) rfl ?_
    rw [Ha.out]
    exact ⟨_, rfl, .inr ⟨by simp, rfl, h2.below⟩⟩
  · have hok' : okName s = true := by simpa using hok
    have hF := pqFree (room := (room : Int)) (h2.qR Hq.out) Hl.out Hu.out ⟨by omega, by omega⟩
    rw [hok'] at hname
    obtain ⟨u, hue⟩ : ∃ u, usedD D = u := ⟨_, rfl⟩
    have HU := Lib.hid hue
    have hu := Hu.out
    have hur := HD.out.used
    rw [hue] at hF hu hur
    have u1 : (u : Int) ≤ 1099511627776 := by omega
    by_cases hfull : room < u + data.length
    · have Ha := Lib.hid (show appendD room D s data = (7, D) by rw [appendD, if_neg hok, if_pos (by rw [hue]; exact hfull)])
      have b1 : (data.length : Int) > (room : Int) - (u : Int) := by omega
      have b1' : (room : Int) - (u : Int) < (data.length : Int) := by omega
      clear hok hok' hfull hue hu hur
      go_enter Tryz.func51, Tryz.ntmps51
      go_wp2_with (first
        | (go_at_call 80; refine (hname _).mono ?_; rintro y w2 ⟨rfl, rfl⟩)
        | (go_at_call 59; refine hF.mono ?_; rintro y w3 ⟨rfl, hb3⟩; have h3 := h2.of_below hb3; have x0 := h3.swap.pt_cell 0; have x1 := h3.swap.pt_cell 1; have y0 := h3.pt_cell 0; have y1 := h3.pt_cell 1; have z0 := h3.pt_free 0; have z1 := h3.pt_free 1; simp only [List.getElem?_toArray, List.getElem?_cons_zero, List.getElem?_cons_succ] at x0 x1 y0 y1))
      have h4 := (h3.set (j := 0) (.int .i64 (room : Int))).set (j := 1) (.slice a D.length c)
      generalize (World.setCell _ _ _).setCell _ _ = wz at h4 ⊢
      have k0 := h4.pt_cell 0
      have k1 := h4.pt_cell 1
      simp only [List.setIfInBounds_toArray, List.set_cons_zero, List.set_cons_succ, List.getElem?_toArray, List.getElem?_cons_zero, List.getElem?_cons_succ] at k0 k1
      refine bodyPost_ret (v := .tuple #[qval (room : Int) (.slice a D.length c), .int .i64 7]) (by simp [results, Tryz.results51, go_sem, k0, k1]) rfl ?_
      rw [Ha.out]
      exact ⟨_, rfl, .inr ⟨by simp, rfl, h4.below⟩⟩
    · have Ha := Lib.hid (show appendD room D s data = (0, putF ⟨s, bytesOf s D ++ data, syncedOf s D⟩ D) by rw [appendD, if_neg hok, if_neg (by rw [hue]; exact hfull)])
      have b1 : ¬ (data.length : Int) > (room : Int) - (u : Int) := by omega
      have b1' : ¬ (room : Int) - (u : Int) < (data.length : Int) := by omega
      have hO := fun (w3 : World) (hb : Below w.heap.size w w3) => pqOf (room := (room : Int)) (w := w3) s (Hq.out.up hb) Hl.out
      have hW := fun (w3 : World) (hb : Below w.heap.size w w3) => pqwith (room := (room : Int)) (w := w3) ⟨s, bytesOf s D ++ data, syncedOf s D⟩ (Hq.out.up hb) Hl.out
      simp only [withQ_eq, ofQ_eq HD.out.srt] at hO hW
      clear hok hok' hfull hue hu hur
      cases hg : getF s D with
      | none =>
        have hby : bytesOf s D = [] := by simp [bytesOf, hg]
        have hsy : syncedOf s D = 0 := by simp [syncedOf, hg]
        have Hby := Lib.hid hby
        have Hsy := Lib.hid hsy
        simp only [hby, hsy, hg, ofV] at hO hW
        clear hby hsy hg
        have hW' : ∀ (w3 : World), Below w.heap.size w w3 → Calls Tryz.prog 82 #[qval (room : Int) (.slice a D.length c), .agg #[.string (bA s), .string ((⟨#[]⟩ : ByteArray) ++ bA data), .int .i64 0]] w3 fun y w' => ∃ v', y = .returned (qval (room : Int) v') ∧ Sat w3 (qrow v' (putF ⟨s, bytesOf s D ++ data, syncedOf s D⟩ D) :: []) w' := fun w3 hb => by
          have := hW w3 hb
          rw [show (⟨#[]⟩ : ByteArray) ++ bA data = bA ([] ++ data) from bA_app [] data, Hby.out, Hsy.out]
          exact this
        clear hW
        go_enter Tryz.func51, Tryz.ntmps51
        go_wp2_with (first
          | (go_at_call 80; refine (hname _).mono ?_; rintro y w2 ⟨rfl, rfl⟩)
          | (go_at_call 59; refine hF.mono ?_; rintro y w3 ⟨rfl, hb3⟩; have h3 := h2.of_below hb3; have x0 := h3.swap.pt_cell 0; have x1 := h3.swap.pt_cell 1; simp only [List.getElem?_toArray, List.getElem?_cons_zero, List.getElem?_cons_succ] at x0 x1)
          | (go_at_call 81; refine (hO _ h3.below).mono ?_; rintro y w4 ⟨rfl, hb4⟩; have h4 := h3.of_below hb4; clear x0 x1; have x0 := h4.swap.pt_cell 0; have x1 := h4.swap.pt_cell 1; have b4 := h4.swap.pt_lt; have h5 := h4.alloc' (.cells #[.string ⟨#[]⟩, .string ⟨#[]⟩, .int .i64 0] 117) (n := w4.heap.size) rfl; simp only [List.getElem?_toArray, List.getElem?_cons_zero, List.getElem?_cons_succ] at x0 x1)
          | (go_at_call 82; refine (hW' _ h5.below).mono ?_; rintro y w6 ⟨v6, rfl, hs6⟩; obtain ⟨a6, c6, rfl⟩ := hs6.q_row.len; have h6 := h5.over hs6; have y0 := h6.p2.pt_cell 0; have y1 := h6.p2.pt_cell 1; have z0 := h6.p2.pt_free 0; have z1 := h6.p2.pt_free 1; simp only [List.getElem?_toArray, List.getElem?_cons_zero, List.getElem?_cons_succ] at y0 y1))
        have h7 := (h6.p2.set (j := 0) (.int .i64 (room : Int))).set (j := 1) (.slice a6 (putF ⟨s, bytesOf s D ++ data, syncedOf s D⟩ D).length c6)
        generalize (World.setCell _ _ _).setCell _ _ = wz at h7 ⊢
        have k0 := h7.pt_cell 0
        have k1 := h7.pt_cell 1
        simp only [List.setIfInBounds_toArray, List.set_cons_zero, List.set_cons_succ, List.getElem?_toArray, List.getElem?_cons_zero, List.getElem?_cons_succ] at k0 k1
        refine bodyPost_ret (v := .tuple #[qval (room : Int) (.slice a6 (putF ⟨s, bytesOf s D ++ data, syncedOf s D⟩ D).length c6), .int .i64 0]) (by simp [results, Tryz.results51, go_sem, k0, k1]) rfl ?_
        rw [Ha.out]
        exact ⟨_, rfl, .inl ⟨rfl, h7.drop.swap.drop.swap.drop⟩⟩
      | some x =>
        have hby : bytesOf s D = x.bytes := by simp [bytesOf, hg]
        have hsy : syncedOf s D = x.synced := by simp [syncedOf, hg]
        have Hby := Lib.hid hby
        have Hsy := Lib.hid hsy
        have hxl : x.bytes.length ≤ u := by
          have := HU.out
          obtain ⟨l1, l2, e⟩ := List.append_of_mem (getF_mem hg)
          rw [e, used_mid] at this
          omega
        have hzx : (bA x.bytes).size = x.bytes.length := bA_size _
        simp only [hby, hsy, hg, ofV] at hO hW
        clear hby hsy hg
        have hW' : ∀ (w3 : World), Below w.heap.size w w3 → Calls Tryz.prog 82 #[qval (room : Int) (.slice a D.length c), .agg #[.string (bA s), .string (bA x.bytes ++ bA data), .int .i64 (x.synced : Int)]] w3 fun y w' => ∃ v', y = .returned (qval (room : Int) v') ∧ Sat w3 (qrow v' (putF ⟨s, bytesOf s D ++ data, syncedOf s D⟩ D) :: []) w' := fun w3 hb => by
          have := hW w3 hb
          rw [bA_app, Hby.out, Hsy.out]
          exact this
        clear hW
        go_enter Tryz.func51, Tryz.ntmps51
        go_wp2_with (first
          | (go_at_call 80; refine (hname _).mono ?_; rintro y w2 ⟨rfl, rfl⟩)
          | (go_at_call 59; refine hF.mono ?_; rintro y w3 ⟨rfl, hb3⟩; have h3 := h2.of_below hb3; have x0 := h3.swap.pt_cell 0; have x1 := h3.swap.pt_cell 1; simp only [List.getElem?_toArray, List.getElem?_cons_zero, List.getElem?_cons_succ] at x0 x1)
          | (go_at_call 81; refine (hO _ h3.below).mono ?_; rintro y w4 ⟨rfl, hb4⟩; have h4 := h3.of_below hb4; clear x0 x1; have x0 := h4.swap.pt_cell 0; have x1 := h4.swap.pt_cell 1; have b4 := h4.swap.pt_lt; have h5 := h4.alloc' (.cells #[.string (bA x.name), .string (bA x.bytes), .int .i64 (x.synced : Int)] 117) (n := w4.heap.size) rfl; simp only [List.getElem?_toArray, List.getElem?_cons_zero, List.getElem?_cons_succ] at x0 x1)
          | (go_at_call 82; refine (hW' _ h5.below).mono ?_; rintro y w6 ⟨v6, rfl, hs6⟩; obtain ⟨a6, c6, rfl⟩ := hs6.q_row.len; have h6 := h5.over hs6; have y0 := h6.p2.pt_cell 0; have y1 := h6.p2.pt_cell 1; have z0 := h6.p2.pt_free 0; have z1 := h6.p2.pt_free 1; simp only [List.getElem?_toArray, List.getElem?_cons_zero, List.getElem?_cons_succ] at y0 y1))
        have h7 := (h6.p2.set (j := 0) (.int .i64 (room : Int))).set (j := 1) (.slice a6 (putF ⟨s, bytesOf s D ++ data, syncedOf s D⟩ D).length c6)
        generalize (World.setCell _ _ _).setCell _ _ = wz at h7 ⊢
        have k0 := h7.pt_cell 0
        have k1 := h7.pt_cell 1
        simp only [List.setIfInBounds_toArray, List.set_cons_zero, List.set_cons_succ, List.getElem?_toArray, List.getElem?_cons_zero, List.getElem?_cons_succ] at k0 k1
        refine bodyPost_ret (v := .tuple #[qval (room : Int) (.slice a6 (putF ⟨s, bytesOf s D ++ data, syncedOf s D⟩ D).length c6), .int .i64 0]) (by simp [results, Tryz.results51, go_sem, k0, k1]) rfl ?_
        rw [Ha.out]
        exact ⟨_, rfl, .inl ⟨rfl, h7.drop.swap.drop.swap.drop⟩⟩
end
end Go.Proofs.YtdngjkjoahgelaaGreatDoor
