/-
  Scripts come back from their texts; a text without its last byte is refused in its last line: plain Lean.
-/
import Derived.Test.YtcjindifdghpgaaGreatDoorOps8
import Derived.Test.YtcjindifdghpgaaGreatDoorScrL
namespace Go.Proofs.YtcjindifdghpgaaGreatDoor
set_option linter.all false
theorem line_join (l : List Int) : lineL l = Lib.join ([115, 101, 116, 117, 112] :: l.map fun x => Lib.decDigits x.toNat) [32] := by
  rw [Lib.join_cons, lineL, Lib.joinTail]
  congr 1
  induction l with
  | nil => rfl
  | cons x l ih => simp only [List.flatMap_cons, List.map_cons, List.flatten_cons, ih]; simp
theorem dec_no (n : Nat) (c : UInt8) (hc : c = 32 ∨ c = 10) : c ∉ Lib.decDigits n := fun h => by
  have := (dec_facts n).2.1 c h
  rcases hc with rfl | rfl
  · have h2 : (32 : UInt8).toNat = 32 := rfl
    have := this.1; omega
  · have h2 : (10 : UInt8).toNat = 10 := rfl
    have := this.1; omega
theorem nums_dec : ∀ (l : List Int), (∀ x ∈ l, 0 ≤ x) → numsL (l.map fun x => Lib.decDigits x.toNat) = some l
  | [], _ => rfl
  | x :: l, h => by
    have h0 := h x (by simp)
    rw [List.map_cons, numsL, num_dec, nums_dec l (fun y hy => h y (by simp [hy]))]
    simp; omega
theorem setup_line (l : List Int) (h9 : l.length = 9) (hm : mayL l = true) : setupL (lineL l) = some l := by
  obtain ⟨a, b, c, d, e, f, g, i, j, rfl⟩ := list9 l h9
  have hb := may_bounds hm
  rw [setupL, line_join, splL_join32 _ (by simp) (fun p hp => ?_), setupW, if_pos ⟨rfl, by simp⟩, nums_dec _ (fun x hx => (hb x hx).1)]
  · simp [hm]
  · rcases List.mem_cons.1 hp with rfl | hp
    · decide
    · obtain ⟨x, _, rfl⟩ := List.mem_map.1 hp
      exact dec_no _ 32 (.inl rfl)
theorem line_no10 (l : List Int) : (10 : UInt8) ∉ lineL l := by
  intro h
  simp only [lineL, List.mem_append, List.mem_flatMap, List.mem_cons] at h
  rcases h with h | ⟨x, _, h | h⟩
  · revert h; decide
  · revert h; decide
  · exact dec_no _ 10 (.inr rfl) h
theorem print_lines (l : List Int) (raw : Bs) : printL l raw = joinL (lineL l :: (chunks raw).map hexL) := by
  rw [printL, joinL_cons, (chunks_all raw.length raw rfl).1]
theorem parse_print (l : List Int) (h9 : l.length = 9) (hm : mayL l = true) (raw : Bs) (hr : raw.length ≤ 16384) : parseL (printL l raw) = .ok (l, raw) := by
  obtain ⟨hb, hk, hf, hn⟩ := chunks_all raw.length raw rfl
  have hsz : ¬ 65536 < (printL l raw).length := by
    have h1 := lineL_len l (fun x hx => by
      obtain ⟨a, b, c, d, e, f, g, i, j, rfl⟩ := list9 l h9
      exact (may_bounds hm x hx).2)
    have h2 := bodyL_len raw
    rw [printL, List.length_append, List.length_cons]; omega
  have hno : ∀ p ∈ lineL l :: (chunks raw).map hexL, (10 : UInt8) ∉ p := fun p hp => by
    rcases List.mem_cons.1 hp with rfl | hp
    · exact line_no10 l
    · obtain ⟨c, _, rfl⟩ := List.mem_map.1 hp
      exact hex_no10 c
  rw [parseL, if_neg hsz, print_lines, splL_join _ hno]
  have hrun := run_ok (chunks raw) 1 (lineL l) [] hk (fun _ h => by omega) (by rw [hf]; simpa using hr)
  rw [hf, List.nil_append] at hrun
  cases hc : (chunks raw).map hexL ++ [[]] with
  | nil => simp at hc
  | cons z t =>
    rw [hc] at hrun
    show parseLs (lineL l :: ((chunks raw).map hexL ++ [[]])) = _
    rw [hc, parseLs, setup_line l h9 hm]
    simp only [hrun]; rfl
theorem parse_cut (l : List Int) (h9 : l.length = 9) (hm : mayL l = true) (raw : Bs) (hr : raw.length ≤ 16384) : parseL (printL l raw).dropLast = .error (15, (raw.length + 31) / 32) := by
  obtain ⟨hb, hk, hf, hn⟩ := chunks_all raw.length raw rfl
  have hsz : ¬ 65536 < (printL l raw).dropLast.length := by
    have h1 := lineL_len l (fun x hx => by
      obtain ⟨a, b, c, d, e, f, g, i, j, rfl⟩ := list9 l h9
      exact (may_bounds hm x hx).2)
    have h2 := bodyL_len raw
    rw [List.length_dropLast, printL, List.length_append, List.length_cons]; omega
  rw [parseL, if_neg hsz]
  by_cases h0 : chunks raw = []
  · have hl0 : (raw.length + 31) / 32 = 0 := by rw [← hn, h0]; rfl
    have e : (printL l raw).dropLast = lineL l := by
      rw [print_lines, h0]; simp [joinL]
    rw [e, splL_miss 10 _ (line_no10 l), hl0]; rfl
  · obtain ⟨cs, c, hcs⟩ : ∃ cs c, chunks raw = cs ++ [c] := ⟨_, _, (List.dropLast_concat_getLast h0).symm⟩
    have hfull := Ck_full _ hk cs c [] hcs
    have hpos := Ck_pos _ hk c (by rw [hcs]; simp)
    have hq : hexL c ≠ [] := fun e => by have := congrArg List.length e; rw [hex_length] at this; simp at this; omega
    have e : (printL l raw).dropLast = joinL (lineL l :: cs.map hexL) ++ hexL c := by
      have : printL l raw = (joinL (lineL l :: cs.map hexL) ++ hexL c) ++ [10] := by
        rw [print_lines, hcs]; simp [joinL]
      rw [this, List.dropLast_concat]
    have hno : ∀ p ∈ lineL l :: cs.map hexL, (10 : UInt8) ∉ p := fun p hp => by
      rcases List.mem_cons.1 hp with rfl | hp
      · exact line_no10 l
      · obtain ⟨c, _, rfl⟩ := List.mem_map.1 hp
        exact hex_no10 c
    have hlen : cs.flatten.length ≤ 16384 := by
      have : raw.length = cs.flatten.length + c.length := by rw [← hf, hcs]; simp
      omega
    have hrun := run_cut (hexL c) hq cs 1 (lineL l) [] hfull (fun h => by omega) (by simpa using hlen)
    have hcn : (raw.length + 31) / 32 = 1 + cs.length := by rw [← hn, hcs]; simp; omega
    rw [e, splL_join_cut _ _ hno (hex_no10 c), hcn]
    cases hc : cs.map hexL ++ [hexL c] with
    | nil => simp at hc
    | cons z t =>
      rw [hc] at hrun
      show parseLs (lineL l :: (cs.map hexL ++ [hexL c])) = _
      rw [hc, parseLs, setup_line l h9 hm]
      simp only [hrun]; rfl
end Go.Proofs.YtcjindifdghpgaaGreatDoor
