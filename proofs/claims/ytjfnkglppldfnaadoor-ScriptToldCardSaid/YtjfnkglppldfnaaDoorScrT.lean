/-
  Script: a byte put ahead of a line, and what Parse says of it, in plain Lean.
-/
import Derived.Test.YtjfnkglppldfnaaDoorScrL
import Derived.Test.YtjfnkglppldfnaaDoorScrW
namespace Go.Proofs.YtjfnkglppldfnaaDoor
/-- An 'x' ahead of line k: 'st': at a line's beginning; n: lines seen. -/
def insR (k : Nat) : Bool → Nat → Bs → Bs
  | _, _, [] => []
  | st, n, c :: t => (if st = true ∧ n = k then [120] else []) ++ c :: insR k (c == 10) (if st = true then n + 1 else n) t
theorem ins_mid (k n : Nat) : ∀ (l s : Bs), (10 : UInt8) ∉ l → insR k false n (l ++ 10 :: s) = l ++ 10 :: insR k true n s
  | [], s, _ => by simp [insR]
  | c :: l, s, h => by
    have hc : (c == 10) = false := by
      have : ¬ c = 10 := fun e => h (by simp [e])
      simpa using this
    have ih := ins_mid k n l s (fun hh => h (by simp [hh]))
    simp [insR, hc, ih]
theorem ins_line (k n : Nat) (l s : Bs) (h : (10 : UInt8) ∉ l) : insR k true n (l ++ 10 :: s) = (if n = k then 120 :: l else l) ++ 10 :: insR k true (n + 1) s := by
  cases l with
  | nil => by_cases hk : n = k <;> simp [insR, hk]
  | cons c l =>
    have hc : (c == 10) = false := by
      have : ¬ c = 10 := fun e => h (by simp [e])
      simpa using this
    simp only [List.cons_append, insR, hc]
    rw [if_pos trivial, ins_mid k (n + 1) l s (fun hh => h (by simp [hh]))]
    by_cases hk : n = k <;> simp [hk]
theorem ins_past (k : Nat) : ∀ (ls : List Bs) (n : Nat), k < n → (∀ l ∈ ls, (10 : UInt8) ∉ l) → insR k true n (joinL ls) = joinL ls
  | [], n, _, _ => rfl
  | l :: ls, n, hk, h => by
    rw [joinL_cons, ins_line k n l _ (h l (by simp)), if_neg (by omega), ins_past k ls (n + 1) (by omega) (fun x hx => h x (by simp [hx]))]
theorem ins_at (k : Nat) (l : Bs) (b : List Bs) (hl : (10 : UInt8) ∉ l) (hb : ∀ x ∈ b, (10 : UInt8) ∉ x) : ∀ (a : List Bs) (n : Nat), n + a.length = k → (∀ x ∈ a, (10 : UInt8) ∉ x) → insR k true n (joinL (a ++ l :: b)) = joinL (a ++ (120 :: l) :: b)
  | [], n, hk, _ => by
    simp only [List.length_nil, Nat.add_zero] at hk
    rw [List.nil_append, List.nil_append, joinL_cons, joinL_cons, ins_line k n l _ hl, if_pos hk, ins_past k b (n + 1) (by omega) hb]
  | x :: a, n, hk, h => by
    simp only [List.length_cons] at hk
    rw [List.cons_append, List.cons_append, joinL_cons, joinL_cons, ins_line k n x _ (h x (by simp)), if_neg (by omega), ins_at k l b hl hb a (n + 1) (by omega) (fun y hy => h y (by simp [hy]))]
abbrev wL : List Int := [3, 1, 4, 1, 2, 1, 4096, 1, 4]
abbrev wline : Bs := [115, 101, 116, 117, 112, 32, 51, 32, 49, 32, 52, 32, 49, 32, 50, 32, 49, 32, 52, 48, 57, 54, 32, 49, 32, 52]
theorem wline_eq : lineL wL = wline := by
  have h := print_txt
  have e : bodyL [0, 255] = [48, 48, 102, 102, 10] := by
    rw [bodyL_cons (by simp), show ([0, 255] : Bs).drop 32 = [] from rfl, bodyL_nil]; decide
  rw [printL, e] at h
  have h2 : lineL wL ++ [10, 48, 48, 102, 102, 10] = wline ++ [10, 48, 48, 102, 102, 10] := h
  exact List.append_cancel_right h2
theorem wline_set : setupL wline = some wL := by
  have h1 : splL 32 wline = [[115, 101, 116, 117, 112], [51], [49], [52], [49], [50], [49], [52, 48, 57, 54], [49], [52]] := by decide
  have h2 : numsL [[51], [49], [52], [49], [50], [49], [52, 48, 57, 54], [49], [52]] = some wL := by decide
  rw [setupL, h1, setupW, if_pos (by decide), h2]; rfl
theorem wline_bad : setupL (120 :: wline) = none := by
  have h1 : splL 32 (120 :: wline) = [[120, 115, 101, 116, 117, 112], [51], [49], [52], [49], [50], [49], [52, 48, 57, 54], [49], [52]] := by decide
  rw [setupL, h1, setupW, if_neg (by decide)]
theorem parse_two (l : Bs) (r : List Bs) (h : r ≠ []) : parseLs (l :: r) = match setupL l with | none => .error (15, 0) | some x => withX x (runL r 1 l []) := by
  cases r with
  | nil => exact absurd rfl h
  | cons a t => rfl
theorem hex_cons (c : Bs) : unhexL (120 :: hexL c) = none := unhex_odd _ (by rw [List.length_cons, hex_length]; omega)
/-- WHAT IS TOLD. -/
theorem told_law (r : Bs) (k : Nat) (hr : r.length ≤ 1000) (hk : k < 1 + (r.length + 31) / 32) : parseL (insR k true 0 (printL wL r)) = .error (15, k) ∧ (insR k true 0 (printL wL r)).length ≤ 65536 := by
  obtain ⟨hb, hck, hfl, hln⟩ := chunks_all r.length r rfl
  have hp : printL wL r = joinL (wline :: (chunks r).map hexL) := by rw [printL, wline_eq, joinL_cons, hb]
  have hw10 : (10 : UInt8) ∉ wline := by decide
  have hh10 : ∀ (cs : List Bs), ∀ l ∈ cs.map hexL, (10 : UInt8) ∉ l := fun cs l hl => by
    obtain ⟨c, _, rfl⟩ := List.mem_map.1 hl
    exact hex_no10 c
  have hlen : ∀ (k n : Nat) (st : Bool) (s : Bs), (insR k st n s).length ≤ 2 * s.length := by
    intro k n st s
    induction s generalizing n st with
    | nil => simp [insR]
    | cons c t ih =>
      have := ih (if st = true then n + 1 else n) (c == 10)
      simp only [insR, List.length_append, List.length_cons]
      split <;> simp <;> omega
  have hpl : (printL wL r).length ≤ 4000 := by
    have e : (printL wL r).length = 27 + (bodyL r).length := by
      rw [printL, wline_eq]
      simp only [List.length_append, List.length_cons, List.length_nil]
      omega
    have := bodyL_len r
    omega
  have hsz : (insR k true 0 (printL wL r)).length ≤ 65536 := by
    have := hlen k 0 true (printL wL r)
    omega
  refine ⟨?_, hsz⟩
  rw [parseL, if_neg (by omega), hp]
  rcases Nat.eq_zero_or_pos k with rfl | hk0
  · have e := ins_at 0 wline ((chunks r).map hexL) hw10 (hh10 _) [] 0 rfl (by simp)
    simp only [List.nil_append] at e
    rw [e, splL_join _ (by
      intro l hl
      rcases List.mem_cons.1 hl with rfl | hl
      · decide
      · exact hh10 _ l hl), List.cons_append, parse_two _ _ (by simp), wline_bad]
  · have hlt : k - 1 < (chunks r).length := by omega
    have hsplit : chunks r = (chunks r).take (k - 1) ++ (chunks r)[k - 1] :: (chunks r).drop (k - 1 + 1) := by
      rw [← List.drop_eq_getElem_cons hlt, List.take_append_drop]
    obtain ⟨a, c, b, he, hal⟩ : ∃ a c b, chunks r = a ++ c :: b ∧ a.length = k - 1 := ⟨_, _, _, hsplit, by simp; omega⟩
    have e := ins_at k (hexL c) (b.map hexL) (hex_no10 c) (hh10 b) (wline :: a.map hexL) 0 (by simp [hal]; omega) (by
      intro l hl
      rcases List.mem_cons.1 hl with rfl | hl
      · exact hw10
      · exact hh10 _ l hl)
    rw [he, List.map_append, List.map_cons]
    rw [List.cons_append] at e
    rw [e, List.cons_append, splL_join _ (by
      intro l hl
      rcases List.mem_cons.1 hl with rfl | hl
      · exact hw10
      · rcases List.mem_append.1 hl with hl | hl
        · exact hh10 _ l hl
        · rcases List.mem_cons.1 hl with rfl | hl
          · intro hh
            rcases List.mem_cons.1 hh with h | h
            · exact absurd h (by decide)
            · exact hex_no10 c h
          · exact hh10 _ l hl), List.cons_append, parse_two _ _ (by simp), wline_set]
    have hrest : ∃ x t, b.map hexL ++ [[]] = x :: t := by
      cases b with
      | nil => exact ⟨[], [], rfl⟩
      | cons y b => exact ⟨_, _, rfl⟩
    obtain ⟨x, t, hx⟩ := hrest
    have hfull := Ck_full (chunks r) hck a c b he
    have htot : a.flatten.length ≤ 16384 := by
      have : (chunks r).flatten.length ≤ 1000 := by rw [hfl]; exact hr
      rw [he, List.flatten_append, List.length_append] at this
      omega
    have hrun := run_bad (120 :: hexL c) (hex_cons c) x t a 1 wline [] hfull (fun h => absurd h (by omega)) (by simpa using htot)
    rw [List.append_assoc, List.cons_append, hx]
    show withX wL (runL (a.map hexL ++ (120 :: hexL c) :: x :: t) 1 wline []) = _
    rw [hrun, hal, withX]
    congr 2; omega
end Go.Proofs.YtjfnkglppldfnaaDoor
