/-
  The chapter's examples of scripts, in plain Lean: texts that are read, or refused in their line.
-/
import Derived.Test.YtcjindifdghpgaaGreatDoorOpsD
import Derived.Test.YtcjindifdghpgaaGreatDoorOps9
namespace Go.Proofs.YtcjindifdghpgaaGreatDoor
set_option linter.all false
abbrev kHead : Bs := [115, 101, 116, 117, 112, 32, 51, 32, 49, 32, 52, 32, 49, 32, 50, 32, 49, 32, 52, 48, 57, 54, 32, 49, 32, 52]
abbrev kS : List Int := [3, 1, 4, 1, 2, 1, 4096, 1, 4]
/-- A line of 32 zeros, k times. -/
def fullL : Nat → Bs
  | 0 => []
  | k + 1 => fullL k ++ (List.replicate 64 48 ++ [10])
def zs (k : Nat) : List Bs := List.replicate k (List.replicate 32 0)
theorem hexZ : hexL (List.replicate 32 0) = List.replicate 64 48 := by decide
theorem full_join (k : Nat) : fullL k = joinL ((zs k).map hexL) := by
  induction k with
  | zero => rfl
  | succ k ih =>
    have h : zs (k + 1) = zs k ++ [List.replicate 32 0] := List.replicate_succ'
    rw [fullL, ih, h, List.map_append, List.map_cons, List.map_nil, hexZ]
    unfold joinL
    rw [List.flatMap_append, List.flatMap_cons, List.flatMap_nil, List.append_nil]
theorem full_len (k : Nat) : (fullL k).length = 65 * k := by
  induction k with
  | zero => rfl
  | succ k ih => rw [fullL, List.length_append, ih]; simp; omega
theorem zs_len (k : Nat) : (zs k).flatten.length = 32 * k := by simp [zs]; omega
theorem zs_all (k : Nat) : ∀ c ∈ zs k, c.length = 32 := fun c hc => by rw [(List.mem_replicate.1 hc).2]; simp
theorem ck_of : ∀ (cs : List Bs), (∀ c ∈ cs, c.length = 32) → Ck cs
  | [], _ => trivial
  | [c], h => by have := h c (by simp); exact ⟨by omega, by omega⟩
  | c :: c' :: t, h => ⟨h c (by simp), ck_of (c' :: t) fun x hx => h x (by simp [hx])⟩
theorem kset : setupL kHead = some kS := by
  have h1 : splL 32 kHead = [[115, 101, 116, 117, 112], [51], [49], [52], [49], [50], [49], [52, 48, 57, 54], [49], [52]] := by decide
  have h2 : numsL [[51], [49], [52], [49], [50], [49], [52, 48, 57, 54], [49], [52]] = some [3, 1, 4, 1, 2, 1, 4096, 1, 4] := by decide
  rw [setupL, h1, setupW, if_pos (by decide), h2]
  rfl
theorem head_no10 : (10 : UInt8) ∉ kHead := by decide
theorem lines_no10 {H : Bs} (hno : (10 : UInt8) ∉ H) (cs : List Bs) : ∀ p ∈ H :: cs.map hexL, (10 : UInt8) ∉ p := fun p hp => by
  rcases List.mem_cons.1 hp with rfl | hp
  · exact hno
  · obtain ⟨c, _, rfl⟩ := List.mem_map.1 hp
    exact hex_no10 c
theorem parse_of {H : Bs} (hset : setupL H = some kS) (t : List Bs) (z : Bs) (s : Bs) (hs : s.length ≤ 65536) (hspl : splL 10 s = H :: z :: t) (r : Except (Int × Nat) Bs) (hr : runL (z :: t) 1 H [] = r) : parseL s = r.map fun x => (kS, x) := by
  rw [parseL, if_neg (by omega), hspl, parseLs, hset, ← hr]
  cases runL (z :: t) 1 H [] <;> rfl
theorem parse_full' {H : Bs} (hset : setupL H = some kS) (hno : (10 : UInt8) ∉ H) (hH : H.length ≤ 100) (n : Nat) (hn : n = 512) : parseL (H ++ 10 :: fullL n) = .ok (kS, (zs n).flatten) := by
  have hs : (H ++ 10 :: fullL n).length ≤ 65536 := by rw [List.length_append, List.length_cons, full_len]; omega
  have hsp : splL 10 (H ++ 10 :: fullL n) = H :: ((zs n).map hexL ++ [[]]) := by
    rw [full_join, ← joinL_cons]; exact splL_join _ (lines_no10 hno _)
  have hr := run_ok (zs n) 1 H [] (ck_of _ (zs_all n)) (fun _ h => by omega) (by rw [zs_len]; simp; omega)
  cases hc : (zs n).map hexL ++ [[]] with
  | nil => simp at hc
  | cons z t =>
    rw [hc] at hr hsp
    rw [parse_of hset t z _ hs hsp _ hr]; rfl
theorem parse_full : parseL (kHead ++ 10 :: fullL 512) = .ok (kS, (zs 512).flatten) := parse_full' kset head_no10 (by decide) 512 rfl
theorem run_long (q : Bs) (hq : 1 ≤ q.length ∧ q.length ≤ 32) (x : Bs) (rest : List Bs) : ∀ (cs : List Bs) (i : Nat) (prev raw : Bs), (∀ c ∈ cs, c.length = 32) → (1 < i → prev.length = 64) → raw.length + cs.flatten.length = 16384 → runL (cs.map hexL ++ hexL q :: x :: rest) i prev raw = .error (3, i + cs.length)
  | [], i, prev, raw, _, hp, hb => by
    simp only [List.map_nil, List.nil_append]
    have : stepL i prev (hexL q) raw = .error 3 := by
      rw [stepL, unhex_hex, stepB, if_neg (by
        rintro (h | h | ⟨h, h'⟩)
        · subst h; simp at hq
        · omega
        · exact h' (hp h)), if_pos (by simp at hb; omega)]
    rw [runL, this]; rfl
  | c :: t, i, prev, raw, hk, hp, hb => by
    have hcl : c.length = 32 := hk c (by simp)
    rw [List.flatten_cons, List.length_append] at hb
    have ih := run_long q hq x rest t (i + 1) (hexL c) (raw ++ c) (fun y hy => hk y (by simp [hy])) (fun _ => by rw [hex_length, hcl]) (by rw [List.length_append]; omega)
    cases ht : t.map hexL ++ hexL q :: x :: rest with
    | nil => simp at ht
    | cons z r =>
      rw [ht] at ih
      simp only [List.map_cons, List.cons_append, ht]
      rw [runL, step_hex i prev raw c (by omega) (by omega) hp (by omega)]
      simp only [ih, List.length_cons]
      congr 2; omega
theorem parse_long' {H : Bs} (hset : setupL H = some kS) (hno : (10 : UInt8) ∉ H) (hH : H.length ≤ 100) (n : Nat) (hn : n = 512) : parseL (H ++ 10 :: fullL n ++ [48, 48, 10]) = .error (3, n + 1) := by
  have hs : (H ++ 10 :: fullL n ++ [48, 48, 10]).length ≤ 65536 := by rw [List.length_append, List.length_append, List.length_cons, full_len]; simp; omega
  have hsp : splL 10 (H ++ 10 :: fullL n ++ [48, 48, 10]) = H :: ((zs n).map hexL ++ hexL [0] :: [] :: []) := by
    have e : H ++ 10 :: fullL n ++ [48, 48, 10] = joinL (H :: (zs n ++ [[0]]).map hexL) := by
      rw [joinL_cons, List.map_append, full_join]
      have : hexL [0] = [48, 48] := by decide
      simp [joinL, this]
    rw [e, splL_join _ (lines_no10 hno _)]; simp
  have hr := run_long [0] (by simp) [] [] (zs n) 1 H [] (zs_all n) (fun h => by omega) (by rw [zs_len]; simp; omega)
  cases hc : (zs n).map hexL ++ hexL [0] :: [] :: [] with
  | nil => simp at hc
  | cons z t =>
    rw [hc] at hr hsp
    rw [parse_of hset t z _ hs hsp _ hr]
    have : (zs n).length = n := by simp [zs]
    rw [this]; simp [Except.map]; omega
theorem parse_long : parseL (kHead ++ 10 :: fullL 512 ++ [48, 48, 10]) = .error (3, 513) := parse_long' kset head_no10 (by decide) 512 rfl
theorem parse_big : parseL (List.replicate 65537 0) = .error (3, 0) := by rw [parseL, if_pos (by rw [List.length_replicate]; decide)]
theorem parse_k0 : parseL [] = .error (15, 0) := by rw [parseL, if_neg (by decide)]; rfl
theorem parse_k1 : parseL [115, 101, 116, 117, 112, 32, 51, 10] = .error (15, 0) := by rw [parseL, if_neg (by decide), show splL 10 [115, 101, 116, 117, 112, 32, 51, 10] = [[115, 101, 116, 117, 112, 32, 51], []] by decide, parseLs, setupL, show splL 32 [115, 101, 116, 117, 112, 32, 51] = [[115, 101, 116, 117, 112], [51]] by decide, setupW, if_neg (by decide)]
theorem parse_k2 : parseL (kHead ++ 10 :: [48, 48, 102, 102]) = .error (15, 1) := parse_of kset [] [48, 48, 102, 102] _ (by decide) (by decide) _ rfl
theorem parse_k3 : parseL (kHead ++ 10 :: [48, 48, 102, 102, 10, 48, 10]) = .error (15, 2) := parse_of kset [[48], []] [48, 48, 102, 102] _ (by decide) (by decide) _ rfl
theorem parse_k4 : parseL (kHead ++ 10 :: [48, 48, 102, 102, 10, 48, 48, 10]) = .error (15, 2) := parse_of kset [[48, 48], []] [48, 48, 102, 102] _ (by decide) (by decide) _ rfl
theorem parse_k5 : parseL (kHead ++ 10 :: [10]) = .error (15, 1) := parse_of kset [[]] [] _ (by decide) (by decide) _ rfl
abbrev kBad2 : Bs := [115, 101, 116, 117, 112, 32, 50, 32, 49, 32, 52, 32, 49, 32, 50, 32, 49, 32, 52, 48, 57, 54, 32, 49, 32, 52]
abbrev kBad3 : Bs := [115, 101, 116, 117, 112, 32, 48, 51, 32, 49, 32, 52, 32, 49, 32, 50, 32, 49, 32, 52, 48, 57, 54, 32, 49, 32, 52]
theorem parse_bad (l : Bs) (hl : (l ++ [10]).length ≤ 65536) (h10 : splL 10 (l ++ [10]) = [l, []]) (h : setupL l = none) : parseL (l ++ [10]) = .error (15, 0) := by
  rw [parseL, if_neg (by omega), h10, parseLs, h]
theorem parse_k6 : parseL (kBad2 ++ [10]) = .error (15, 0) := by
  refine parse_bad _ (by decide) (by decide) ?_
  have h2 : numsL [[50], [49], [52], [49], [50], [49], [52, 48, 57, 54], [49], [52]] = some [2, 1, 4, 1, 2, 1, 4096, 1, 4] := by decide
  rw [setupL, show splL 32 kBad2 = [[115, 101, 116, 117, 112], [50], [49], [52], [49], [50], [49], [52, 48, 57, 54], [49], [52]] by decide, setupW, if_pos (by decide), h2]
  rfl
theorem parse_k7 : parseL (kBad3 ++ [10]) = .error (15, 0) := by
  refine parse_bad _ (by decide) (by decide) ?_
  have h2 : numsL [[48, 51], [49], [52], [49], [50], [49], [52, 48, 57, 54], [49], [52]] = none := by decide
  rw [setupL, show splL 32 kBad3 = [[115, 101, 116, 117, 112], [48, 51], [49], [52], [49], [50], [49], [52, 48, 57, 54], [49], [52]] by decide, setupW, if_pos (by decide), h2]
  rfl
/-- The lines that are no operations. -/
def badOps : List Bs := [[103, 101, 116, 32, 55, 50], [103, 101, 116, 32, 55, 50, 32, 55, 56, 32], [103, 101, 116, 32, 55, 32, 55, 56], [103, 101, 116, 32, 45, 32, 55, 56], [],
  [103, 101, 116, 32, 55, 50, 32, 55, 56, 32, 55, 54], [112, 117, 116, 32, 55, 50, 32, 55, 56], [99, 104, 101, 99, 107, 32, 55, 50, 32, 55, 56, 32, 55, 54, 32, 115, 111, 109, 101],
  [99, 104, 101, 99, 107, 32, 55, 50, 32, 55, 56, 32, 55, 54, 32, 104, 97, 115], [99, 104, 101, 99, 107, 32, 55, 50, 32, 55, 56, 32, 55, 54, 32, 110, 111, 110, 101, 32, 45], [71, 69, 84, 32, 55, 50, 32, 55, 56],
  [103, 101, 116, 32, 55, 50, 32, 55, 88], [103, 101, 116, 32, 32, 55, 50, 32, 55, 56], [112, 117, 116, 32, 55, 50, 32, 55, 56, 32], [99, 104, 101, 99, 107, 32, 55, 50, 32, 55, 56, 32, 32, 110, 111, 110, 101]]
theorem bad_read : ∀ p ∈ badOps, readW (splL 32 p) = none := by decide +kernel
end Go.Proofs.YtcjindifdghpgaaGreatDoor
